/-
  Files: the document's crash.
-/
import Derived.Test.YtkdfahmlcnbadaaDiskV
import Derived.Test.YtkdfahmlcnbadaaDiskC
namespace Go.Proofs.Ytkdfahmlcnbadaa.dk
open Go.Ab
set_option maxRecDepth 100000
set_option maxHeartbeats 8000000
set_option linter.unusedSimpArgs false
set_option linter.unusedVariables false

theorem RC.file {cs : List V} {M : DM} (h : RC cs M) {i : Nat} (hi : i < 32) (F : FM) (hF : F.loose = []) (x : S2) (hs : F.sure = x) :
    RC (splice cs (i * 3) [.sc (.bool x.there), .str x.s, .sc .nilS]) (M.upd i F) := by
  have hl := h.len
  have key : ∀ j, j < 3 → (splice cs (i * 3) [.sc (.bool x.there), .str x.s, .sc .nilS])[i * 3 + j]? = ([.sc (.bool x.there), .str x.s, .sc .nilS] : List V)[j]? := by
    intro j hj
    rw [splice_at (by simp; omega), if_pos (by simp; omega)]
    congr 1; omega
  refine h.upd hi (splice_len (by simp; omega)) (v := .sc .nilS) ⟨by rw [hF]; exact .nil, ?_, ?_, ?_⟩ fun j hj => ?_
  · rw [hs]; exact key 0 (by omega)
  · rw [hs]; exact key 1 (by omega)
  · exact key 2 (by omega)
  · rw [splice_at (by simp; omega), if_neg (by simp; omega)]

theorem rcrash_ok (k : Nat) (ys : YlF) (σ : St) (d : Nat) (M : DM) (kv : V) (keep : List Int) (torn : Int) (h : RR σ d M) (hkv : RV 1 kv (keep.map kc)) {B : Nat} (hm : M.Ok B) (hB : B ≤ 1000000) (hk : 2000000 ≤ k) :
    W (callY Tab.tb (k + 2) ys 34 [.ptr d 0, kv, .sc (.int .i64 torn)] σ) fun r => r.1 = .tup [] ∧ RR r.2 d (M.crash keep torn) ∧ Kept (· = d) σ r.2 := by
  rw [s_call (af := Tab.b34) rfl (Nat.le_of_ble_eq_true rfl)]
  have hdone := fun σ x c h => rdone_ok k ys σ x c h
  generalize callY Tab.tb (k + 1) = cy at hdone ⊢
  have klen := hkv.len
  have ksize := hkv.size
  rw [List.length_map] at klen
  simp -implicitDefEqProofs (disch := first | exact nbf rfl | exact nbt rfl | (simp only [ne_eq, reduceCtorEq, not_false_eq_true]; done) | omega | (simp -implicitDefEqProofs only [St.n_push, St.n_put, St.n_bump, List.length_set] <;> omega) | fail) only [Tab.b34, aCallv, aPtrEq, XOp.kind, AOp.run, AO.eval, put, reduceCtorEq, aInt, Nat.reduceEqDiff, initEnv, V.bool, V.i64, resultsOf, AR.get, aExtract, aUn, Int.reduceEq, Int.reduceBEq, Int.reduceBNe, aBox, aLoad, aStore, aPart, aPlace, aArrAddr, aArrIdx, aIdx, aLenStr, aConv, aFold, aMinMax, aEqV, aNilCheck, fillV, aEqBool, aEqInt, aEqStr, Nat.reduceAdd, Nat.reduceLeDiff, Nat.reduceMul, Int.reduceLT, Int.reduceLE, Int.reduceToNat, Int.reduceGT, Int.reduceGE, Int.reduceNeg, Int.reduceAdd, Int.reduceSub, wrap64, chkAdd, effAdd, AOp.kind, chkAll, chkSee, Nat.reduceLT, zP.down, zQ.down]
  repeat (first | refine w_fin ?_ | refine w_seq ?_ | refine w_block ?_ | refine w_reg ?_ | refine w_op ?_ | refine w_dop ?_)
  refine W.mono (Q := fun r => ∃ (ρ : Env) (σ' : St), r = ((.exit 0 : Ex), ρ, σ') ∧ ρ 0 = .ptr d 0 ∧ RR σ' d (M.part keep torn 32) ∧ Kept (· = d) σ σ') ?_ ?_
  · refine w_loop (fun m ρ σ' => ∃ i : Nat, m = 32 - i ∧ i ≤ 32 ∧ ρ 0 = .ptr d 0 ∧ ρ 1 = kv ∧ ρ 2 = .sc (.int .i64 torn) ∧ ρ 6 = .sc (.int .i64 i) ∧ RR σ' d (M.part keep torn i) ∧ Kept (· = d) σ σ') 32 (by omega) ?_ ?_
    · refine ⟨0, rfl, by omega, ?_, ?_, ?_, ?_, ?_, Kept.refl _ _⟩
      · simp -implicitDefEqProofs (disch := first | exact nbf rfl | exact nbt rfl | (simp only [ne_eq, reduceCtorEq, not_false_eq_true]; done) | omega | (simp -implicitDefEqProofs only [St.n_push, St.n_put, St.n_bump, List.length_set] <;> omega) | fail) only [aCallv, aPtrEq, XOp.kind, AOp.run, AO.eval, put, reduceCtorEq, aInt, Nat.reduceEqDiff, initEnv, V.bool, V.i64, resultsOf, AR.get, aExtract, aUn, Int.reduceEq, Int.reduceBEq, Int.reduceBNe, aBox, aLoad, aStore, aPart, aPlace, aArrAddr, aArrIdx, aIdx, aLenStr, aConv, aFold, aMinMax, aEqV, aNilCheck, fillV, aEqBool, aEqInt, aEqStr, Nat.reduceAdd, Nat.reduceLeDiff, Nat.reduceMul, Int.reduceLT, Int.reduceLE, Int.reduceToNat, Int.reduceGT, Int.reduceGE, Int.reduceNeg, Int.reduceAdd, Int.reduceSub, wrap64, chkAdd, effAdd, AOp.kind, chkAll, chkSee, Nat.reduceLT, zP.down, zQ.down]
      · simp -implicitDefEqProofs (disch := first | exact nbf rfl | exact nbt rfl | (simp only [ne_eq, reduceCtorEq, not_false_eq_true]; done) | omega | (simp -implicitDefEqProofs only [St.n_push, St.n_put, St.n_bump, List.length_set] <;> omega) | fail) only [aCallv, aPtrEq, XOp.kind, AOp.run, AO.eval, put, reduceCtorEq, aInt, Nat.reduceEqDiff, initEnv, V.bool, V.i64, resultsOf, AR.get, aExtract, aUn, Int.reduceEq, Int.reduceBEq, Int.reduceBNe, aBox, aLoad, aStore, aPart, aPlace, aArrAddr, aArrIdx, aIdx, aLenStr, aConv, aFold, aMinMax, aEqV, aNilCheck, fillV, aEqBool, aEqInt, aEqStr, Nat.reduceAdd, Nat.reduceLeDiff, Nat.reduceMul, Int.reduceLT, Int.reduceLE, Int.reduceToNat, Int.reduceGT, Int.reduceGE, Int.reduceNeg, Int.reduceAdd, Int.reduceSub, wrap64, chkAdd, effAdd, AOp.kind, chkAll, chkSee, Nat.reduceLT, zP.down, zQ.down]
      · simp -implicitDefEqProofs (disch := first | exact nbf rfl | exact nbt rfl | (simp only [ne_eq, reduceCtorEq, not_false_eq_true]; done) | omega | (simp -implicitDefEqProofs only [St.n_push, St.n_put, St.n_bump, List.length_set] <;> omega) | fail) only [aCallv, aPtrEq, XOp.kind, AOp.run, AO.eval, put, reduceCtorEq, aInt, Nat.reduceEqDiff, initEnv, V.bool, V.i64, resultsOf, AR.get, aExtract, aUn, Int.reduceEq, Int.reduceBEq, Int.reduceBNe, aBox, aLoad, aStore, aPart, aPlace, aArrAddr, aArrIdx, aIdx, aLenStr, aConv, aFold, aMinMax, aEqV, aNilCheck, fillV, aEqBool, aEqInt, aEqStr, Nat.reduceAdd, Nat.reduceLeDiff, Nat.reduceMul, Int.reduceLT, Int.reduceLE, Int.reduceToNat, Int.reduceGT, Int.reduceGE, Int.reduceNeg, Int.reduceAdd, Int.reduceSub, wrap64, chkAdd, effAdd, AOp.kind, chkAll, chkSee, Nat.reduceLT, zP.down, zQ.down]
      · simp -implicitDefEqProofs (disch := first | exact nbf rfl | exact nbt rfl | (simp only [ne_eq, reduceCtorEq, not_false_eq_true]; done) | omega | (simp -implicitDefEqProofs only [St.n_push, St.n_put, St.n_bump, List.length_set] <;> omega) | fail) only [aCallv, aPtrEq, XOp.kind, AOp.run, AO.eval, put, reduceCtorEq, aInt, Nat.reduceEqDiff, initEnv, V.bool, V.i64, resultsOf, AR.get, aExtract, aUn, Int.reduceEq, Int.reduceBEq, Int.reduceBNe, aBox, aLoad, aStore, aPart, aPlace, aArrAddr, aArrIdx, aIdx, aLenStr, aConv, aFold, aMinMax, aEqV, aNilCheck, fillV, aEqBool, aEqInt, aEqStr, Nat.reduceAdd, Nat.reduceLeDiff, Nat.reduceMul, Int.reduceLT, Int.reduceLE, Int.reduceToNat, Int.reduceGT, Int.reduceGE, Int.reduceNeg, Int.reduceAdd, Int.reduceSub, wrap64, chkAdd, effAdd, AOp.kind, chkAll, chkSee, Nat.reduceLT, zP.down, zQ.down]
      · have : M.part keep torn 0 = M := by unfold DM.part; simp
        rw [this]; exact h
    · rintro m ρ σ' ⟨i, hm', hi, e0, e1, e2, e6, hd, hkept⟩
      by_cases hl : i < 32
      · have c1 : decide ((i : Int) < 32) = true := by simp; omega
        obtain ⟨cs, g, hc⟩ := hd
        obtain ⟨v, hv⟩ := hc.f i hl
        have hfi : (M.part keep torn i).f i = M.f i := by unfold DM.part; simp
        rw [hfi] at hv
        have hfm := hm.f i hl
        have ha := arr_ok (o := d) (off := 0) (len := 32) (sz := 3) hl
        have hlen := hc.len
        have l1 : (i * 3 + 3 ≤ cs.length) = True := by simp only [eq_iff_iff, iff_true]; omega
        have l2 : (i * 3 + 2 ≤ cs.length) = True := by simp only [eq_iff_iff, iff_true]; omega
        have t1 := hv.take2
        have v2 := hv.c2
        have hcell := hv.rv.cell
        have vlen := hv.rv.len
        have vsize := hv.rv.size
        rw [List.length_map] at vlen
        have hdl := St.get_lt g
        have hn : ∃ n : Nat, (min (max ((keep[i]?).getD 0) 0) ((M.f i).loose.length : Int)) = n ∧ n ≤ (M.f i).loose.length := ⟨(min (max ((keep[i]?).getD 0) 0) ((M.f i).loose.length : Int)).toNat, by omega, by omega⟩
        obtain ⟨n, hn, hnl⟩ := hn
        have hcr : (M.f i).crash ((keep[i]?).getD 0) torn = (M.f i).crashN n torn := by unfold FM.crash; rw [hn, Int.toNat_natCast]
        have gb : σ'.bump.get d = some (.cells cs) := by rw [St.get_bump]; exact g
        have kb : Kept (· = d) σ σ'.bump := hkept.bump
        generalize hσb : σ'.bump = σb at gb kb
        by_cases hki : i < keep.length
        · have c2 : decide ((i : Int) < (keep.length : Int)) = true := by simpa using hki
          obtain ⟨k1, _, _⟩ := hkv.at (i := i) (by simpa using hki)
          have k2 := hkv.cellAt (i := i) (j := 0) (by simpa using hki) (by omega)
          simp only [List.getElem_map, kc, List.getElem?_cons_zero, Nat.mul_one, Nat.add_zero] at k2 k1
          have hkg : (keep[i]?).getD 0 = keep[i] := by rw [List.getElem?_eq_getElem hki]; rfl
          by_cases hkp : 0 < keep[i]
          · have c3 : decide (keep[i] > 0) = true := by simpa using hkp
            by_cases hkl : ((M.f i).loose.length : Int) < keep[i]
            · have c4 : decide (keep[i] > ((M.f i).loose.length : Int)) = true := by simpa using hkl
              have e9 : (.sc (.int .i64 ((M.f i).loose.length : Int)) : V) = .sc (.int .i64 (n : Int)) := by rw [hkg] at hn; congr 2; omega
              simp -implicitDefEqProofs (disch := first | exact nbf rfl | exact nbt rfl | (simp only [ne_eq, reduceCtorEq, not_false_eq_true]; done) | omega | (simp -implicitDefEqProofs only [St.n_push, St.n_put, St.n_bump, List.length_set] <;> omega) | fail) only [c1, c2, c3, c4, e0, e1, e2, e6, klen, ksize, ha, g, l2, t1, v2, hcell.1, hcell.2, vlen, vsize, k1, k2, hσb, gb, aCallv, aPtrEq, XOp.kind, AOp.run, AO.eval, put, reduceCtorEq, aInt, Nat.reduceEqDiff, initEnv, V.bool, V.i64, resultsOf, AR.get, aExtract, aUn, Int.reduceEq, Int.reduceBEq, Int.reduceBNe, aBox, aLoad, aStore, aPart, aPlace, aArrIdx, aIdx, aLenStr, aConv, aFold, aMinMax, aEqV, aNilCheck, fillV, aEqBool, aEqInt, aEqStr, Nat.reduceAdd, Nat.reduceLeDiff, Nat.reduceMul, Int.reduceLT, Int.reduceLE, Int.reduceToNat, Int.reduceGT, Int.reduceGE, Int.reduceNeg, Int.reduceAdd, Int.reduceSub, wrap64, chkAdd, effAdd, AOp.kind, chkAll, chkSee, Nat.reduceLT, zP.down, zQ.down]
              repeat (first | refine w_fin ?_ | refine w_seq ?_ | refine w_block ?_ | refine w_reg ?_ | refine w_op ?_ | refine w_dop ?_)
              refine W.mono (Q := fun r => ∃ (ρ3 : Env) (σ3 : St), r = ((.exit 2 : Ex), ρ3, σ3) ∧ ρ3 0 = .ptr d 0 ∧ ρ3 1 = kv ∧ ρ3 2 = .sc (.int .i64 torn) ∧ ρ3 6 = .sc (.int .i64 i) ∧ ρ3 7 = .agg (s2c (seenOf (M.f i).sure ((M.f i).loose.take n))) ∧ ρ3 8 = v ∧ ρ3 9 = .sc (.int .i64 n) ∧ σ3.get d = some (.cells cs) ∧ Kept (· = d) σ σ3) ?_ ?_
              · refine w_loop (fun m ρ3 σ3 => ∃ (j : Nat), m = n - j ∧ j ≤ n ∧ ρ3 0 = .ptr d 0 ∧ ρ3 1 = kv ∧ ρ3 2 = .sc (.int .i64 torn) ∧ ρ3 6 = .sc (.int .i64 i) ∧ ρ3 7 = .agg (s2c (seenOf (M.f i).sure ((M.f i).loose.take j))) ∧ ρ3 8 = v ∧ ρ3 9 = .sc (.int .i64 n) ∧ ρ3 10 = .sc (.int .i64 j) ∧ σ3.get d = some (.cells cs) ∧ Kept (· = d) σ σ3) n (by omega) ?_ ?_
                · refine ⟨0, rfl, Nat.zero_le _, ?_, ?_, ?_, ?_, ?_, ?_, ?_, ?_, gb, kb⟩
                  all_goals first | rfl | (simp -implicitDefEqProofs (disch := first | exact nbf rfl | exact nbt rfl | (simp only [ne_eq, reduceCtorEq, not_false_eq_true]; done) | omega | (simp -implicitDefEqProofs only [St.n_push, St.n_put, St.n_bump, List.length_set] <;> omega) | fail) only [e0, e1, e2, e6, aCallv, aPtrEq, XOp.kind, AOp.run, AO.eval, put, reduceCtorEq, aInt, Nat.reduceEqDiff, initEnv, V.bool, V.i64, resultsOf, AR.get, aExtract, aUn, Int.reduceEq, Int.reduceBEq, Int.reduceBNe, aBox, aLoad, aStore, aPart, aPlace, aArrAddr, aArrIdx, aIdx, aLenStr, aConv, aFold, aMinMax, aEqV, aNilCheck, fillV, aEqBool, aEqInt, aEqStr, Nat.reduceAdd, Nat.reduceLeDiff, Nat.reduceMul, Int.reduceLT, Int.reduceLE, Int.reduceToNat, Int.reduceGT, Int.reduceGE, Int.reduceNeg, Int.reduceAdd, Int.reduceSub, wrap64, chkAdd, effAdd, AOp.kind, chkAll, chkSee, Nat.reduceLT, zP.down, zQ.down]; done) | (simp -implicitDefEqProofs (disch := first | exact nbf rfl | exact nbt rfl | (simp only [ne_eq, reduceCtorEq, not_false_eq_true]; done) | omega | (simp -implicitDefEqProofs only [St.n_push, St.n_put, St.n_bump, List.length_set] <;> omega) | fail) only [aCallv, aPtrEq, XOp.kind, AOp.run, AO.eval, put, reduceCtorEq, aInt, Nat.reduceEqDiff, initEnv, V.bool, V.i64, resultsOf, AR.get, aExtract, aUn, Int.reduceEq, Int.reduceBEq, Int.reduceBNe, aBox, aLoad, aStore, aPart, aPlace, aArrAddr, aArrIdx, aIdx, aLenStr, aConv, aFold, aMinMax, aEqV, aNilCheck, fillV, aEqBool, aEqInt, aEqStr, Nat.reduceAdd, Nat.reduceLeDiff, Nat.reduceMul, Int.reduceLT, Int.reduceLE, Int.reduceToNat, Int.reduceGT, Int.reduceGE, Int.reduceNeg, Int.reduceAdd, Int.reduceSub, wrap64, chkAdd, effAdd, AOp.kind, chkAll, chkSee, Nat.reduceLT, zP.down, zQ.down]; exact e9) | (simp -implicitDefEqProofs (disch := first | exact nbf rfl | exact nbt rfl | (simp only [ne_eq, reduceCtorEq, not_false_eq_true]; done) | omega | (simp -implicitDefEqProofs only [St.n_push, St.n_put, St.n_bump, List.length_set] <;> omega) | fail) only [aCallv, aPtrEq, XOp.kind, AOp.run, AO.eval, put, reduceCtorEq, aInt, Nat.reduceEqDiff, initEnv, V.bool, V.i64, resultsOf, AR.get, aExtract, aUn, Int.reduceEq, Int.reduceBEq, Int.reduceBNe, aBox, aLoad, aStore, aPart, aPlace, aArrAddr, aArrIdx, aIdx, aLenStr, aConv, aFold, aMinMax, aEqV, aNilCheck, fillV, aEqBool, aEqInt, aEqStr, Nat.reduceAdd, Nat.reduceLeDiff, Nat.reduceMul, Int.reduceLT, Int.reduceLE, Int.reduceToNat, Int.reduceGT, Int.reduceGE, Int.reduceNeg, Int.reduceAdd, Int.reduceSub, wrap64, chkAdd, effAdd, AOp.kind, chkAll, chkSee, Nat.reduceLT, zP.down, zQ.down]; rfl)
                · rintro m3 ρ3 σ3 ⟨j, hm3, hj, p0, p1, p2, p6, p7, p8, p9, p10, gd3, hk3⟩
                  by_cases hjn : j < n
                  · have c5 : decide ((j : Int) < (n : Int)) = true := by simpa using hjn
                    have hj2 : j < (M.f i).loose.length := by omega
                    obtain ⟨a1, a2, a3⟩ := hv.rv.at (i := j) (by simpa using hj2)
                    simp only [List.getElem_map] at a3
                    have hd := fun σ => hdone σ _ _ (okl_at hj2 hfm.1.ok)
                    have hsn : seenOf (M.f i).sure ((M.f i).loose.take (j + 1)) = done (seenOf (M.f i).sure ((M.f i).loose.take j)) (M.f i).loose[j] := by rw [take_succ' hj2, seenOf_append]
                    have w3 : IntKind.i64.wrap ((j : Int) + 1) = (j : Int) + 1 := wrap64 (by omega) (by omega)
                    simp only [chc, s2c] at a3 hd p7
                    simp -implicitDefEqProofs (disch := first | exact nbf rfl | exact nbt rfl | (simp only [ne_eq, reduceCtorEq, not_false_eq_true]; done) | omega | (simp -implicitDefEqProofs only [St.n_push, St.n_put, St.n_bump, List.length_set] <;> omega) | fail) only [c5, p0, p1, p2, p6, p7, p8, p9, p10, a1, a2, a3, vsize, hd, w3, s2c, aCallv, aPtrEq, XOp.kind, AOp.run, AO.eval, put, reduceCtorEq, aInt, Nat.reduceEqDiff, initEnv, V.bool, V.i64, resultsOf, AR.get, aExtract, aUn, Int.reduceEq, Int.reduceBEq, Int.reduceBNe, aBox, aLoad, aStore, aPart, aPlace, aArrAddr, aArrIdx, aIdx, aLenStr, aConv, aFold, aMinMax, aEqV, aNilCheck, fillV, aEqBool, aEqInt, aEqStr, Nat.reduceAdd, Nat.reduceLeDiff, Nat.reduceMul, Int.reduceLT, Int.reduceLE, Int.reduceToNat, Int.reduceGT, Int.reduceGE, Int.reduceNeg, Int.reduceAdd, Int.reduceSub, wrap64, chkAdd, effAdd, AOp.kind, chkAll, chkSee, Nat.reduceLT, zP.down, zQ.down]
                    refine ⟨n - (j + 1), by omega, j + 1, rfl, hjn, ?_, by simp, gd3, hk3.bump.bump.bump⟩
                    rw [hsn]
                  · have c5 : decide ((j : Int) < (n : Int)) = false := by simpa using hjn
                    have hjn : j = n := by omega
                    subst hjn
                    simp -implicitDefEqProofs (disch := first | exact nbf rfl | exact nbt rfl | (simp only [ne_eq, reduceCtorEq, not_false_eq_true]; done) | omega | (simp -implicitDefEqProofs only [St.n_push, St.n_put, St.n_bump, List.length_set] <;> omega) | fail) only [c5, p9, p10, aCallv, aPtrEq, XOp.kind, AOp.run, AO.eval, put, reduceCtorEq, aInt, Nat.reduceEqDiff, initEnv, V.bool, V.i64, resultsOf, AR.get, aExtract, aUn, Int.reduceEq, Int.reduceBEq, Int.reduceBNe, aBox, aLoad, aStore, aPart, aPlace, aArrAddr, aArrIdx, aIdx, aLenStr, aConv, aFold, aMinMax, aEqV, aNilCheck, fillV, aEqBool, aEqInt, aEqStr, Nat.reduceAdd, Nat.reduceLeDiff, Nat.reduceMul, Int.reduceLT, Int.reduceLE, Int.reduceToNat, Int.reduceGT, Int.reduceGE, Int.reduceNeg, Int.reduceAdd, Int.reduceSub, wrap64, chkAdd, effAdd, AOp.kind, chkAll, chkSee, Nat.reduceLT, zP.down, zQ.down]
                    refine ⟨_, _, rfl, ?_, ?_, ?_, ?_, ?_, ?_, ?_, gd3, hk3⟩
                    all_goals first | (simp -implicitDefEqProofs (disch := first | exact nbf rfl | exact nbt rfl | (simp only [ne_eq, reduceCtorEq, not_false_eq_true]; done) | omega | (simp -implicitDefEqProofs only [St.n_push, St.n_put, St.n_bump, List.length_set] <;> omega) | fail) only [p0, p1, p2, p6, p7, p8, p9, p10, aCallv, aPtrEq, XOp.kind, AOp.run, AO.eval, put, reduceCtorEq, aInt, Nat.reduceEqDiff, initEnv, V.bool, V.i64, resultsOf, AR.get, aExtract, aUn, Int.reduceEq, Int.reduceBEq, Int.reduceBNe, aBox, aLoad, aStore, aPart, aPlace, aArrAddr, aArrIdx, aIdx, aLenStr, aConv, aFold, aMinMax, aEqV, aNilCheck, fillV, aEqBool, aEqInt, aEqStr, Nat.reduceAdd, Nat.reduceLeDiff, Nat.reduceMul, Int.reduceLT, Int.reduceLE, Int.reduceToNat, Int.reduceGT, Int.reduceGE, Int.reduceNeg, Int.reduceAdd, Int.reduceSub, wrap64, chkAdd, effAdd, AOp.kind, chkAll, chkSee, Nat.reduceLT, zP.down, zQ.down]; done) | (simp -implicitDefEqProofs (disch := first | exact nbf rfl | exact nbt rfl | (simp only [ne_eq, reduceCtorEq, not_false_eq_true]; done) | omega | (simp -implicitDefEqProofs only [St.n_push, St.n_put, St.n_bump, List.length_set] <;> omega) | fail) only [p0, p1, p2, p6, p7, p8, p9, p10, aCallv, aPtrEq, XOp.kind, AOp.run, AO.eval, put, reduceCtorEq, aInt, Nat.reduceEqDiff, initEnv, V.bool, V.i64, resultsOf, AR.get, aExtract, aUn, Int.reduceEq, Int.reduceBEq, Int.reduceBNe, aBox, aLoad, aStore, aPart, aPlace, aArrAddr, aArrIdx, aIdx, aLenStr, aConv, aFold, aMinMax, aEqV, aNilCheck, fillV, aEqBool, aEqInt, aEqStr, Nat.reduceAdd, Nat.reduceLeDiff, Nat.reduceMul, Int.reduceLT, Int.reduceLE, Int.reduceToNat, Int.reduceGT, Int.reduceGE, Int.reduceNeg, Int.reduceAdd, Int.reduceSub, wrap64, chkAdd, effAdd, AOp.kind, chkAll, chkSee, Nat.reduceLT, zP.down, zQ.down]; rfl)
              · rintro _ ⟨ρ3, σ3, rfl, p0, p1, p2, p6, p7, p8, p9, gd3, hk3⟩
                have hend : ∀ (σ4 : St) (x : S2), (M.f i).crash ((keep[i]?).getD 0) torn = ⟨x, []⟩ → σ4.get d = some (.cells cs) → Kept (· = d) σ σ4 →
                    RR (σ4.put d (some (.cells (splice cs (i * 3) [.sc (.bool x.there), .str x.s, .sc .nilS])))) d (M.part keep torn (i + 1)) ∧ Kept (· = d) σ (σ4.put d (some (.cells (splice cs (i * 3) [.sc (.bool x.there), .str x.s, .sc .nilS])))) := by
                  intro σ4 x hx g1 k1
                  refine ⟨⟨_, get_put_self g1, ?_⟩, k1.put (.inl rfl) (St.get_lt g1) _⟩
                  rw [← part_succ]
                  exact hc.file hl _ (by rw [hx]) x (by rw [hx])
                have w4 : IntKind.i64.wrap ((i : Int) + 1) = (i : Int) + 1 := wrap64 (by omega) (by omega)
                have hcr2 := hcr
                unfold FM.crashN at hcr2
                dsimp only at hcr2
                have hxl := seen_len (okl_take n hfm.1.ok) hfm.1.len
                by_cases q1 : n < (M.f i).loose.length
                · exact absurd q1 (by rw [hkg] at hn; omega)
                · have c5 : decide ((n : Int) < ((M.f i).loose.length : Int)) = false := by simpa using q1
                  have hnn : (M.f i).loose[n]? = none := List.getElem?_eq_none (by omega)
                  rw [hnn] at hcr2
                  dsimp only at hcr2
                  obtain ⟨r1, r2⟩ := hend _ _ hcr2 gd3 hk3
                  simp only [s2c] at p7
                  simp -implicitDefEqProofs (disch := first | exact nbf rfl | exact nbt rfl | (simp only [ne_eq, reduceCtorEq, not_false_eq_true]; done) | omega | (simp -implicitDefEqProofs only [St.n_push, St.n_put, St.n_bump, List.length_set] <;> omega) | fail) only [p0, p1, p2, p6, p7, p8, p9, c5, vlen, vsize, gd3, ha, l1, w4, aCallv, aPtrEq, XOp.kind, AOp.run, AO.eval, put, reduceCtorEq, aInt, Nat.reduceEqDiff, initEnv, V.bool, V.i64, resultsOf, AR.get, aExtract, aUn, Int.reduceEq, Int.reduceBEq, Int.reduceBNe, aBox, aLoad, aStore, aPart, aPlace, aArrIdx, aIdx, aLenStr, aConv, aFold, aMinMax, aEqV, aNilCheck, fillV, aEqBool, aEqInt, aEqStr, Nat.reduceAdd, Nat.reduceLeDiff, Nat.reduceMul, Int.reduceLT, Int.reduceLE, Int.reduceToNat, Int.reduceGT, Int.reduceGE, Int.reduceNeg, Int.reduceAdd, Int.reduceSub, wrap64, chkAdd, effAdd, AOp.kind, chkAll, chkSee, Nat.reduceLT, zP.down, zQ.down]
                  exact ⟨32 - (i + 1), by omega, i + 1, rfl, by omega, by simp, r1, r2⟩
            · have c4 : decide (keep[i] > ((M.f i).loose.length : Int)) = false := by simpa using hkl
              have e9 : (.sc (.int .i64 keep[i]) : V) = .sc (.int .i64 (n : Int)) := by rw [hkg] at hn; congr 2; omega
              simp -implicitDefEqProofs (disch := first | exact nbf rfl | exact nbt rfl | (simp only [ne_eq, reduceCtorEq, not_false_eq_true]; done) | omega | (simp -implicitDefEqProofs only [St.n_push, St.n_put, St.n_bump, List.length_set] <;> omega) | fail) only [c1, c2, c3, c4, e0, e1, e2, e6, klen, ksize, ha, g, l2, t1, v2, hcell.1, hcell.2, vlen, vsize, k1, k2, hσb, gb, aCallv, aPtrEq, XOp.kind, AOp.run, AO.eval, put, reduceCtorEq, aInt, Nat.reduceEqDiff, initEnv, V.bool, V.i64, resultsOf, AR.get, aExtract, aUn, Int.reduceEq, Int.reduceBEq, Int.reduceBNe, aBox, aLoad, aStore, aPart, aPlace, aArrIdx, aIdx, aLenStr, aConv, aFold, aMinMax, aEqV, aNilCheck, fillV, aEqBool, aEqInt, aEqStr, Nat.reduceAdd, Nat.reduceLeDiff, Nat.reduceMul, Int.reduceLT, Int.reduceLE, Int.reduceToNat, Int.reduceGT, Int.reduceGE, Int.reduceNeg, Int.reduceAdd, Int.reduceSub, wrap64, chkAdd, effAdd, AOp.kind, chkAll, chkSee, Nat.reduceLT, zP.down, zQ.down]
              repeat (first | refine w_fin ?_ | refine w_seq ?_ | refine w_block ?_ | refine w_reg ?_ | refine w_op ?_ | refine w_dop ?_)
              refine W.mono (Q := fun r => ∃ (ρ3 : Env) (σ3 : St), r = ((.exit 2 : Ex), ρ3, σ3) ∧ ρ3 0 = .ptr d 0 ∧ ρ3 1 = kv ∧ ρ3 2 = .sc (.int .i64 torn) ∧ ρ3 6 = .sc (.int .i64 i) ∧ ρ3 7 = .agg (s2c (seenOf (M.f i).sure ((M.f i).loose.take n))) ∧ ρ3 8 = v ∧ ρ3 9 = .sc (.int .i64 n) ∧ σ3.get d = some (.cells cs) ∧ Kept (· = d) σ σ3) ?_ ?_
              · refine w_loop (fun m ρ3 σ3 => ∃ (j : Nat), m = n - j ∧ j ≤ n ∧ ρ3 0 = .ptr d 0 ∧ ρ3 1 = kv ∧ ρ3 2 = .sc (.int .i64 torn) ∧ ρ3 6 = .sc (.int .i64 i) ∧ ρ3 7 = .agg (s2c (seenOf (M.f i).sure ((M.f i).loose.take j))) ∧ ρ3 8 = v ∧ ρ3 9 = .sc (.int .i64 n) ∧ ρ3 10 = .sc (.int .i64 j) ∧ σ3.get d = some (.cells cs) ∧ Kept (· = d) σ σ3) n (by omega) ?_ ?_
                · refine ⟨0, rfl, Nat.zero_le _, ?_, ?_, ?_, ?_, ?_, ?_, ?_, ?_, gb, kb⟩
                  all_goals first | rfl | (simp -implicitDefEqProofs (disch := first | exact nbf rfl | exact nbt rfl | (simp only [ne_eq, reduceCtorEq, not_false_eq_true]; done) | omega | (simp -implicitDefEqProofs only [St.n_push, St.n_put, St.n_bump, List.length_set] <;> omega) | fail) only [e0, e1, e2, e6, aCallv, aPtrEq, XOp.kind, AOp.run, AO.eval, put, reduceCtorEq, aInt, Nat.reduceEqDiff, initEnv, V.bool, V.i64, resultsOf, AR.get, aExtract, aUn, Int.reduceEq, Int.reduceBEq, Int.reduceBNe, aBox, aLoad, aStore, aPart, aPlace, aArrAddr, aArrIdx, aIdx, aLenStr, aConv, aFold, aMinMax, aEqV, aNilCheck, fillV, aEqBool, aEqInt, aEqStr, Nat.reduceAdd, Nat.reduceLeDiff, Nat.reduceMul, Int.reduceLT, Int.reduceLE, Int.reduceToNat, Int.reduceGT, Int.reduceGE, Int.reduceNeg, Int.reduceAdd, Int.reduceSub, wrap64, chkAdd, effAdd, AOp.kind, chkAll, chkSee, Nat.reduceLT, zP.down, zQ.down]; done) | (simp -implicitDefEqProofs (disch := first | exact nbf rfl | exact nbt rfl | (simp only [ne_eq, reduceCtorEq, not_false_eq_true]; done) | omega | (simp -implicitDefEqProofs only [St.n_push, St.n_put, St.n_bump, List.length_set] <;> omega) | fail) only [aCallv, aPtrEq, XOp.kind, AOp.run, AO.eval, put, reduceCtorEq, aInt, Nat.reduceEqDiff, initEnv, V.bool, V.i64, resultsOf, AR.get, aExtract, aUn, Int.reduceEq, Int.reduceBEq, Int.reduceBNe, aBox, aLoad, aStore, aPart, aPlace, aArrAddr, aArrIdx, aIdx, aLenStr, aConv, aFold, aMinMax, aEqV, aNilCheck, fillV, aEqBool, aEqInt, aEqStr, Nat.reduceAdd, Nat.reduceLeDiff, Nat.reduceMul, Int.reduceLT, Int.reduceLE, Int.reduceToNat, Int.reduceGT, Int.reduceGE, Int.reduceNeg, Int.reduceAdd, Int.reduceSub, wrap64, chkAdd, effAdd, AOp.kind, chkAll, chkSee, Nat.reduceLT, zP.down, zQ.down]; exact e9) | (simp -implicitDefEqProofs (disch := first | exact nbf rfl | exact nbt rfl | (simp only [ne_eq, reduceCtorEq, not_false_eq_true]; done) | omega | (simp -implicitDefEqProofs only [St.n_push, St.n_put, St.n_bump, List.length_set] <;> omega) | fail) only [aCallv, aPtrEq, XOp.kind, AOp.run, AO.eval, put, reduceCtorEq, aInt, Nat.reduceEqDiff, initEnv, V.bool, V.i64, resultsOf, AR.get, aExtract, aUn, Int.reduceEq, Int.reduceBEq, Int.reduceBNe, aBox, aLoad, aStore, aPart, aPlace, aArrAddr, aArrIdx, aIdx, aLenStr, aConv, aFold, aMinMax, aEqV, aNilCheck, fillV, aEqBool, aEqInt, aEqStr, Nat.reduceAdd, Nat.reduceLeDiff, Nat.reduceMul, Int.reduceLT, Int.reduceLE, Int.reduceToNat, Int.reduceGT, Int.reduceGE, Int.reduceNeg, Int.reduceAdd, Int.reduceSub, wrap64, chkAdd, effAdd, AOp.kind, chkAll, chkSee, Nat.reduceLT, zP.down, zQ.down]; rfl)
                · rintro m3 ρ3 σ3 ⟨j, hm3, hj, p0, p1, p2, p6, p7, p8, p9, p10, gd3, hk3⟩
                  by_cases hjn : j < n
                  · have c5 : decide ((j : Int) < (n : Int)) = true := by simpa using hjn
                    have hj2 : j < (M.f i).loose.length := by omega
                    obtain ⟨a1, a2, a3⟩ := hv.rv.at (i := j) (by simpa using hj2)
                    simp only [List.getElem_map] at a3
                    have hd := fun σ => hdone σ _ _ (okl_at hj2 hfm.1.ok)
                    have hsn : seenOf (M.f i).sure ((M.f i).loose.take (j + 1)) = done (seenOf (M.f i).sure ((M.f i).loose.take j)) (M.f i).loose[j] := by rw [take_succ' hj2, seenOf_append]
                    have w3 : IntKind.i64.wrap ((j : Int) + 1) = (j : Int) + 1 := wrap64 (by omega) (by omega)
                    simp only [chc, s2c] at a3 hd p7
                    simp -implicitDefEqProofs (disch := first | exact nbf rfl | exact nbt rfl | (simp only [ne_eq, reduceCtorEq, not_false_eq_true]; done) | omega | (simp -implicitDefEqProofs only [St.n_push, St.n_put, St.n_bump, List.length_set] <;> omega) | fail) only [c5, p0, p1, p2, p6, p7, p8, p9, p10, a1, a2, a3, vsize, hd, w3, s2c, aCallv, aPtrEq, XOp.kind, AOp.run, AO.eval, put, reduceCtorEq, aInt, Nat.reduceEqDiff, initEnv, V.bool, V.i64, resultsOf, AR.get, aExtract, aUn, Int.reduceEq, Int.reduceBEq, Int.reduceBNe, aBox, aLoad, aStore, aPart, aPlace, aArrAddr, aArrIdx, aIdx, aLenStr, aConv, aFold, aMinMax, aEqV, aNilCheck, fillV, aEqBool, aEqInt, aEqStr, Nat.reduceAdd, Nat.reduceLeDiff, Nat.reduceMul, Int.reduceLT, Int.reduceLE, Int.reduceToNat, Int.reduceGT, Int.reduceGE, Int.reduceNeg, Int.reduceAdd, Int.reduceSub, wrap64, chkAdd, effAdd, AOp.kind, chkAll, chkSee, Nat.reduceLT, zP.down, zQ.down]
                    refine ⟨n - (j + 1), by omega, j + 1, rfl, hjn, ?_, by simp, gd3, hk3.bump.bump.bump⟩
                    rw [hsn]
                  · have c5 : decide ((j : Int) < (n : Int)) = false := by simpa using hjn
                    have hjn : j = n := by omega
                    subst hjn
                    simp -implicitDefEqProofs (disch := first | exact nbf rfl | exact nbt rfl | (simp only [ne_eq, reduceCtorEq, not_false_eq_true]; done) | omega | (simp -implicitDefEqProofs only [St.n_push, St.n_put, St.n_bump, List.length_set] <;> omega) | fail) only [c5, p9, p10, aCallv, aPtrEq, XOp.kind, AOp.run, AO.eval, put, reduceCtorEq, aInt, Nat.reduceEqDiff, initEnv, V.bool, V.i64, resultsOf, AR.get, aExtract, aUn, Int.reduceEq, Int.reduceBEq, Int.reduceBNe, aBox, aLoad, aStore, aPart, aPlace, aArrAddr, aArrIdx, aIdx, aLenStr, aConv, aFold, aMinMax, aEqV, aNilCheck, fillV, aEqBool, aEqInt, aEqStr, Nat.reduceAdd, Nat.reduceLeDiff, Nat.reduceMul, Int.reduceLT, Int.reduceLE, Int.reduceToNat, Int.reduceGT, Int.reduceGE, Int.reduceNeg, Int.reduceAdd, Int.reduceSub, wrap64, chkAdd, effAdd, AOp.kind, chkAll, chkSee, Nat.reduceLT, zP.down, zQ.down]
                    refine ⟨_, _, rfl, ?_, ?_, ?_, ?_, ?_, ?_, ?_, gd3, hk3⟩
                    all_goals first | (simp -implicitDefEqProofs (disch := first | exact nbf rfl | exact nbt rfl | (simp only [ne_eq, reduceCtorEq, not_false_eq_true]; done) | omega | (simp -implicitDefEqProofs only [St.n_push, St.n_put, St.n_bump, List.length_set] <;> omega) | fail) only [p0, p1, p2, p6, p7, p8, p9, p10, aCallv, aPtrEq, XOp.kind, AOp.run, AO.eval, put, reduceCtorEq, aInt, Nat.reduceEqDiff, initEnv, V.bool, V.i64, resultsOf, AR.get, aExtract, aUn, Int.reduceEq, Int.reduceBEq, Int.reduceBNe, aBox, aLoad, aStore, aPart, aPlace, aArrAddr, aArrIdx, aIdx, aLenStr, aConv, aFold, aMinMax, aEqV, aNilCheck, fillV, aEqBool, aEqInt, aEqStr, Nat.reduceAdd, Nat.reduceLeDiff, Nat.reduceMul, Int.reduceLT, Int.reduceLE, Int.reduceToNat, Int.reduceGT, Int.reduceGE, Int.reduceNeg, Int.reduceAdd, Int.reduceSub, wrap64, chkAdd, effAdd, AOp.kind, chkAll, chkSee, Nat.reduceLT, zP.down, zQ.down]; done) | (simp -implicitDefEqProofs (disch := first | exact nbf rfl | exact nbt rfl | (simp only [ne_eq, reduceCtorEq, not_false_eq_true]; done) | omega | (simp -implicitDefEqProofs only [St.n_push, St.n_put, St.n_bump, List.length_set] <;> omega) | fail) only [p0, p1, p2, p6, p7, p8, p9, p10, aCallv, aPtrEq, XOp.kind, AOp.run, AO.eval, put, reduceCtorEq, aInt, Nat.reduceEqDiff, initEnv, V.bool, V.i64, resultsOf, AR.get, aExtract, aUn, Int.reduceEq, Int.reduceBEq, Int.reduceBNe, aBox, aLoad, aStore, aPart, aPlace, aArrAddr, aArrIdx, aIdx, aLenStr, aConv, aFold, aMinMax, aEqV, aNilCheck, fillV, aEqBool, aEqInt, aEqStr, Nat.reduceAdd, Nat.reduceLeDiff, Nat.reduceMul, Int.reduceLT, Int.reduceLE, Int.reduceToNat, Int.reduceGT, Int.reduceGE, Int.reduceNeg, Int.reduceAdd, Int.reduceSub, wrap64, chkAdd, effAdd, AOp.kind, chkAll, chkSee, Nat.reduceLT, zP.down, zQ.down]; rfl)
              · rintro _ ⟨ρ3, σ3, rfl, p0, p1, p2, p6, p7, p8, p9, gd3, hk3⟩
                have hend : ∀ (σ4 : St) (x : S2), (M.f i).crash ((keep[i]?).getD 0) torn = ⟨x, []⟩ → σ4.get d = some (.cells cs) → Kept (· = d) σ σ4 →
                    RR (σ4.put d (some (.cells (splice cs (i * 3) [.sc (.bool x.there), .str x.s, .sc .nilS])))) d (M.part keep torn (i + 1)) ∧ Kept (· = d) σ (σ4.put d (some (.cells (splice cs (i * 3) [.sc (.bool x.there), .str x.s, .sc .nilS])))) := by
                  intro σ4 x hx g1 k1
                  refine ⟨⟨_, get_put_self g1, ?_⟩, k1.put (.inl rfl) (St.get_lt g1) _⟩
                  rw [← part_succ]
                  exact hc.file hl _ (by rw [hx]) x (by rw [hx])
                have w4 : IntKind.i64.wrap ((i : Int) + 1) = (i : Int) + 1 := wrap64 (by omega) (by omega)
                have hcr2 := hcr
                unfold FM.crashN at hcr2
                dsimp only at hcr2
                have hxl := seen_len (okl_take n hfm.1.ok) hfm.1.len
                by_cases q1 : n < (M.f i).loose.length
                · have c5 : decide ((n : Int) < ((M.f i).loose.length : Int)) = true := by simpa using q1
                  obtain ⟨a1, a2, a3⟩ := hv.rv.at (i := n) (by simpa using q1)
                  have b0 := hv.rv.cellAt (i := n) (j := 0) (by simpa using q1) (by omega)
                  have b1 := hv.rv.cellAt (i := n) (j := 1) (by simpa using q1) (by omega)
                  simp only [List.getElem_map, chc, List.getElem?_cons_zero, List.getElem?_cons_succ, Nat.add_zero] at b0 b1
                  have hnn : (M.f i).loose[n]? = some (M.f i).loose[n] := List.getElem?_eq_getElem q1
                  rw [hnn] at hcr2
                  dsimp only at hcr2
                  have hokn := okl_at q1 hfm.1.ok
                  generalize hX : seenOf (M.f i).sure ((M.f i).loose.take n) = X at hcr2 hxl hokn p7
                  generalize (M.f i).loose[n] = c at hcr2 hokn b0 b1
                  by_cases q2 : c.k = 1
                  · have d1 := beq_iff_eq.2 q2
                    by_cases q4 : 0 < c.s.length
                    · have d2 : decide ((c.s.length : Int) > 0) = true := by simpa using q4
                      by_cases q3 : 0 < torn
                      · have d3 : decide (torn > 0) = true := by simpa using q3
                        rw [if_pos ⟨q2, q4, q3⟩] at hcr2
                        have hlen1 : X.s.length + c.s.length ≤ 1048576 := by
                          rcases hokn with ⟨_, h⟩ | ⟨h, _⟩ | h
                          · exact h
                          · omega
                          · omega
                        have w5 : IntKind.i64.wrap ((c.s.length : Int) - 1) = (c.s.length : Int) - 1 := wrap64 (by omega) (by omega)
                        obtain ⟨t, ht⟩ : ∃ t : Nat, min torn ((c.s.length : Int) - 1) = t := ⟨(min torn ((c.s.length : Int) - 1)).toNat, by omega⟩
                        rw [ht, Int.toNat_natCast] at hcr2
                        have hd := fun σ => hdone σ X ⟨1, c.s.take t, 0⟩ (.inl ⟨rfl, by dsimp only; rw [List.length_take]; omega⟩)
                        have sl := sl_to (u := c.s) (n := t) (by omega)
                        simp only [chc, s2c] at hd p7
                        by_cases q5 : (c.s.length : Int) - 1 < torn
                        · have d4 : decide (torn > (c.s.length : Int) - 1) = true := by simpa using q5
                          have et : (c.s.length : Int) - 1 = t := by omega
                          have sl' : aSlice (.str c.s) none (some (.sc (.int .i64 ((c.s.length : Int) - 1)))) none = some (.str (c.s.take t)) := by rw [et]; exact sl
                          have gd4 : σ3.bump.bump.bump.get d = some (.cells cs) := by simp only [St.get_bump]; exact gd3
                          obtain ⟨r1, r2⟩ := hend _ _ hcr2 gd4 hk3.bump.bump.bump
                          simp -implicitDefEqProofs (disch := first | exact nbf rfl | exact nbt rfl | (simp only [ne_eq, reduceCtorEq, not_false_eq_true]; done) | omega | (simp -implicitDefEqProofs only [St.n_push, St.n_put, St.n_bump, List.length_set] <;> omega) | fail) only [p0, p1, p2, p6, p7, p8, p9, c5, d1, d2, d3, d4, a1, b0, b1, vlen, vsize, w5, sl', hd, gd3, ha, l1, w4, aCallv, aPtrEq, XOp.kind, AOp.run, AO.eval, put, reduceCtorEq, aInt, Nat.reduceEqDiff, initEnv, V.bool, V.i64, resultsOf, AR.get, aExtract, aUn, Int.reduceEq, Int.reduceBEq, Int.reduceBNe, aBox, aLoad, aStore, aPart, aPlace, aArrIdx, aIdx, aLenStr, aConv, aFold, aMinMax, aEqV, aNilCheck, fillV, aEqBool, aEqInt, aEqStr, Nat.reduceAdd, Nat.reduceLeDiff, Nat.reduceMul, Int.reduceLT, Int.reduceLE, Int.reduceToNat, Int.reduceGT, Int.reduceGE, Int.reduceNeg, Int.reduceAdd, Int.reduceSub, wrap64, chkAdd, effAdd, AOp.kind, chkAll, chkSee, Nat.reduceLT, zP.down, zQ.down]
                          exact ⟨32 - (i + 1), by omega, i + 1, rfl, by omega, by simp, r1, r2⟩
                        · have d4 : decide (torn > (c.s.length : Int) - 1) = false := by simpa using q5
                          have et : torn = t := by omega
                          have sl' : aSlice (.str c.s) none (some (.sc (.int .i64 torn))) none = some (.str (c.s.take t)) := by rw [et]; exact sl
                          have gd4 : σ3.bump.bump.bump.get d = some (.cells cs) := by simp only [St.get_bump]; exact gd3
                          obtain ⟨r1, r2⟩ := hend _ _ hcr2 gd4 hk3.bump.bump.bump
                          simp -implicitDefEqProofs (disch := first | exact nbf rfl | exact nbt rfl | (simp only [ne_eq, reduceCtorEq, not_false_eq_true]; done) | omega | (simp -implicitDefEqProofs only [St.n_push, St.n_put, St.n_bump, List.length_set] <;> omega) | fail) only [p0, p1, p2, p6, p7, p8, p9, c5, d1, d2, d3, d4, a1, b0, b1, vlen, vsize, w5, sl', hd, gd3, ha, l1, w4, aCallv, aPtrEq, XOp.kind, AOp.run, AO.eval, put, reduceCtorEq, aInt, Nat.reduceEqDiff, initEnv, V.bool, V.i64, resultsOf, AR.get, aExtract, aUn, Int.reduceEq, Int.reduceBEq, Int.reduceBNe, aBox, aLoad, aStore, aPart, aPlace, aArrIdx, aIdx, aLenStr, aConv, aFold, aMinMax, aEqV, aNilCheck, fillV, aEqBool, aEqInt, aEqStr, Nat.reduceAdd, Nat.reduceLeDiff, Nat.reduceMul, Int.reduceLT, Int.reduceLE, Int.reduceToNat, Int.reduceGT, Int.reduceGE, Int.reduceNeg, Int.reduceAdd, Int.reduceSub, wrap64, chkAdd, effAdd, AOp.kind, chkAll, chkSee, Nat.reduceLT, zP.down, zQ.down]
                          exact ⟨32 - (i + 1), by omega, i + 1, rfl, by omega, by simp, r1, r2⟩
                      · have d3 : decide (torn > 0) = false := by simpa using q3
                        rw [if_neg (fun h => q3 h.2.2)] at hcr2
                        obtain ⟨r1, r2⟩ := hend _ _ hcr2 gd3 hk3
                        simp only [s2c] at p7
                        simp -implicitDefEqProofs (disch := first | exact nbf rfl | exact nbt rfl | (simp only [ne_eq, reduceCtorEq, not_false_eq_true]; done) | omega | (simp -implicitDefEqProofs only [St.n_push, St.n_put, St.n_bump, List.length_set] <;> omega) | fail) only [p0, p1, p2, p6, p7, p8, p9, c5, d1, d2, d3, a1, b0, b1, vlen, vsize, gd3, ha, l1, w4, aCallv, aPtrEq, XOp.kind, AOp.run, AO.eval, put, reduceCtorEq, aInt, Nat.reduceEqDiff, initEnv, V.bool, V.i64, resultsOf, AR.get, aExtract, aUn, Int.reduceEq, Int.reduceBEq, Int.reduceBNe, aBox, aLoad, aStore, aPart, aPlace, aArrIdx, aIdx, aLenStr, aConv, aFold, aMinMax, aEqV, aNilCheck, fillV, aEqBool, aEqInt, aEqStr, Nat.reduceAdd, Nat.reduceLeDiff, Nat.reduceMul, Int.reduceLT, Int.reduceLE, Int.reduceToNat, Int.reduceGT, Int.reduceGE, Int.reduceNeg, Int.reduceAdd, Int.reduceSub, wrap64, chkAdd, effAdd, AOp.kind, chkAll, chkSee, Nat.reduceLT, zP.down, zQ.down]
                        exact ⟨32 - (i + 1), by omega, i + 1, rfl, by omega, by simp, r1, r2⟩
                    · have d2 : decide ((c.s.length : Int) > 0) = false := by simpa using q4
                      rw [if_neg (fun h => q4 h.2.1)] at hcr2
                      obtain ⟨r1, r2⟩ := hend _ _ hcr2 gd3 hk3
                      simp only [s2c] at p7
                      simp -implicitDefEqProofs (disch := first | exact nbf rfl | exact nbt rfl | (simp only [ne_eq, reduceCtorEq, not_false_eq_true]; done) | omega | (simp -implicitDefEqProofs only [St.n_push, St.n_put, St.n_bump, List.length_set] <;> omega) | fail) only [p0, p1, p2, p6, p7, p8, p9, c5, d1, d2, a1, b0, b1, vlen, vsize, gd3, ha, l1, w4, aCallv, aPtrEq, XOp.kind, AOp.run, AO.eval, put, reduceCtorEq, aInt, Nat.reduceEqDiff, initEnv, V.bool, V.i64, resultsOf, AR.get, aExtract, aUn, Int.reduceEq, Int.reduceBEq, Int.reduceBNe, aBox, aLoad, aStore, aPart, aPlace, aArrIdx, aIdx, aLenStr, aConv, aFold, aMinMax, aEqV, aNilCheck, fillV, aEqBool, aEqInt, aEqStr, Nat.reduceAdd, Nat.reduceLeDiff, Nat.reduceMul, Int.reduceLT, Int.reduceLE, Int.reduceToNat, Int.reduceGT, Int.reduceGE, Int.reduceNeg, Int.reduceAdd, Int.reduceSub, wrap64, chkAdd, effAdd, AOp.kind, chkAll, chkSee, Nat.reduceLT, zP.down, zQ.down]
                      exact ⟨32 - (i + 1), by omega, i + 1, rfl, by omega, by simp, r1, r2⟩
                  · have d1 := beq_eq_false_iff_ne.2 q2
                    rw [if_neg (fun h => q2 h.1)] at hcr2
                    obtain ⟨r1, r2⟩ := hend _ _ hcr2 gd3 hk3
                    simp only [s2c] at p7
                    simp -implicitDefEqProofs (disch := first | exact nbf rfl | exact nbt rfl | (simp only [ne_eq, reduceCtorEq, not_false_eq_true]; done) | omega | (simp -implicitDefEqProofs only [St.n_push, St.n_put, St.n_bump, List.length_set] <;> omega) | fail) only [p0, p1, p2, p6, p7, p8, p9, c5, d1, a1, b0, b1, vlen, vsize, gd3, ha, l1, w4, aCallv, aPtrEq, XOp.kind, AOp.run, AO.eval, put, reduceCtorEq, aInt, Nat.reduceEqDiff, initEnv, V.bool, V.i64, resultsOf, AR.get, aExtract, aUn, Int.reduceEq, Int.reduceBEq, Int.reduceBNe, aBox, aLoad, aStore, aPart, aPlace, aArrIdx, aIdx, aLenStr, aConv, aFold, aMinMax, aEqV, aNilCheck, fillV, aEqBool, aEqInt, aEqStr, Nat.reduceAdd, Nat.reduceLeDiff, Nat.reduceMul, Int.reduceLT, Int.reduceLE, Int.reduceToNat, Int.reduceGT, Int.reduceGE, Int.reduceNeg, Int.reduceAdd, Int.reduceSub, wrap64, chkAdd, effAdd, AOp.kind, chkAll, chkSee, Nat.reduceLT, zP.down, zQ.down]
                    exact ⟨32 - (i + 1), by omega, i + 1, rfl, by omega, by simp, r1, r2⟩
                · have c5 : decide ((n : Int) < ((M.f i).loose.length : Int)) = false := by simpa using q1
                  have hnn : (M.f i).loose[n]? = none := List.getElem?_eq_none (by omega)
                  rw [hnn] at hcr2
                  dsimp only at hcr2
                  obtain ⟨r1, r2⟩ := hend _ _ hcr2 gd3 hk3
                  simp only [s2c] at p7
                  simp -implicitDefEqProofs (disch := first | exact nbf rfl | exact nbt rfl | (simp only [ne_eq, reduceCtorEq, not_false_eq_true]; done) | omega | (simp -implicitDefEqProofs only [St.n_push, St.n_put, St.n_bump, List.length_set] <;> omega) | fail) only [p0, p1, p2, p6, p7, p8, p9, c5, vlen, vsize, gd3, ha, l1, w4, aCallv, aPtrEq, XOp.kind, AOp.run, AO.eval, put, reduceCtorEq, aInt, Nat.reduceEqDiff, initEnv, V.bool, V.i64, resultsOf, AR.get, aExtract, aUn, Int.reduceEq, Int.reduceBEq, Int.reduceBNe, aBox, aLoad, aStore, aPart, aPlace, aArrIdx, aIdx, aLenStr, aConv, aFold, aMinMax, aEqV, aNilCheck, fillV, aEqBool, aEqInt, aEqStr, Nat.reduceAdd, Nat.reduceLeDiff, Nat.reduceMul, Int.reduceLT, Int.reduceLE, Int.reduceToNat, Int.reduceGT, Int.reduceGE, Int.reduceNeg, Int.reduceAdd, Int.reduceSub, wrap64, chkAdd, effAdd, AOp.kind, chkAll, chkSee, Nat.reduceLT, zP.down, zQ.down]
                  exact ⟨32 - (i + 1), by omega, i + 1, rfl, by omega, by simp, r1, r2⟩
          · have c3 : decide (keep[i] > 0) = false := by simpa using hkp
            have c4 : decide ((0 : Int) > ((M.f i).loose.length : Int)) = false := by simp
            have hn0 : n = 0 := by rw [hkg] at hn; omega
            have e9 : (.sc (.int .i64 0) : V) = .sc (.int .i64 (n : Int)) := by rw [hn0]; rfl
            simp -implicitDefEqProofs (disch := first | exact nbf rfl | exact nbt rfl | (simp only [ne_eq, reduceCtorEq, not_false_eq_true]; done) | omega | (simp -implicitDefEqProofs only [St.n_push, St.n_put, St.n_bump, List.length_set] <;> omega) | fail) only [c1, c2, c3, c4, e0, e1, e2, e6, klen, ksize, ha, g, l2, t1, v2, hcell.1, hcell.2, vlen, vsize, k1, k2, hσb, gb, aCallv, aPtrEq, XOp.kind, AOp.run, AO.eval, put, reduceCtorEq, aInt, Nat.reduceEqDiff, initEnv, V.bool, V.i64, resultsOf, AR.get, aExtract, aUn, Int.reduceEq, Int.reduceBEq, Int.reduceBNe, aBox, aLoad, aStore, aPart, aPlace, aArrIdx, aIdx, aLenStr, aConv, aFold, aMinMax, aEqV, aNilCheck, fillV, aEqBool, aEqInt, aEqStr, Nat.reduceAdd, Nat.reduceLeDiff, Nat.reduceMul, Int.reduceLT, Int.reduceLE, Int.reduceToNat, Int.reduceGT, Int.reduceGE, Int.reduceNeg, Int.reduceAdd, Int.reduceSub, wrap64, chkAdd, effAdd, AOp.kind, chkAll, chkSee, Nat.reduceLT, zP.down, zQ.down]
            repeat (first | refine w_fin ?_ | refine w_seq ?_ | refine w_block ?_ | refine w_reg ?_ | refine w_op ?_ | refine w_dop ?_)
            refine W.mono (Q := fun r => ∃ (ρ3 : Env) (σ3 : St), r = ((.exit 2 : Ex), ρ3, σ3) ∧ ρ3 0 = .ptr d 0 ∧ ρ3 1 = kv ∧ ρ3 2 = .sc (.int .i64 torn) ∧ ρ3 6 = .sc (.int .i64 i) ∧ ρ3 7 = .agg (s2c (seenOf (M.f i).sure ((M.f i).loose.take n))) ∧ ρ3 8 = v ∧ ρ3 9 = .sc (.int .i64 n) ∧ σ3.get d = some (.cells cs) ∧ Kept (· = d) σ σ3) ?_ ?_
            · refine w_loop (fun m ρ3 σ3 => ∃ (j : Nat), m = n - j ∧ j ≤ n ∧ ρ3 0 = .ptr d 0 ∧ ρ3 1 = kv ∧ ρ3 2 = .sc (.int .i64 torn) ∧ ρ3 6 = .sc (.int .i64 i) ∧ ρ3 7 = .agg (s2c (seenOf (M.f i).sure ((M.f i).loose.take j))) ∧ ρ3 8 = v ∧ ρ3 9 = .sc (.int .i64 n) ∧ ρ3 10 = .sc (.int .i64 j) ∧ σ3.get d = some (.cells cs) ∧ Kept (· = d) σ σ3) n (by omega) ?_ ?_
              · refine ⟨0, rfl, Nat.zero_le _, ?_, ?_, ?_, ?_, ?_, ?_, ?_, ?_, gb, kb⟩
                all_goals first | rfl | (simp -implicitDefEqProofs (disch := first | exact nbf rfl | exact nbt rfl | (simp only [ne_eq, reduceCtorEq, not_false_eq_true]; done) | omega | (simp -implicitDefEqProofs only [St.n_push, St.n_put, St.n_bump, List.length_set] <;> omega) | fail) only [e0, e1, e2, e6, aCallv, aPtrEq, XOp.kind, AOp.run, AO.eval, put, reduceCtorEq, aInt, Nat.reduceEqDiff, initEnv, V.bool, V.i64, resultsOf, AR.get, aExtract, aUn, Int.reduceEq, Int.reduceBEq, Int.reduceBNe, aBox, aLoad, aStore, aPart, aPlace, aArrAddr, aArrIdx, aIdx, aLenStr, aConv, aFold, aMinMax, aEqV, aNilCheck, fillV, aEqBool, aEqInt, aEqStr, Nat.reduceAdd, Nat.reduceLeDiff, Nat.reduceMul, Int.reduceLT, Int.reduceLE, Int.reduceToNat, Int.reduceGT, Int.reduceGE, Int.reduceNeg, Int.reduceAdd, Int.reduceSub, wrap64, chkAdd, effAdd, AOp.kind, chkAll, chkSee, Nat.reduceLT, zP.down, zQ.down]; done) | (simp -implicitDefEqProofs (disch := first | exact nbf rfl | exact nbt rfl | (simp only [ne_eq, reduceCtorEq, not_false_eq_true]; done) | omega | (simp -implicitDefEqProofs only [St.n_push, St.n_put, St.n_bump, List.length_set] <;> omega) | fail) only [aCallv, aPtrEq, XOp.kind, AOp.run, AO.eval, put, reduceCtorEq, aInt, Nat.reduceEqDiff, initEnv, V.bool, V.i64, resultsOf, AR.get, aExtract, aUn, Int.reduceEq, Int.reduceBEq, Int.reduceBNe, aBox, aLoad, aStore, aPart, aPlace, aArrAddr, aArrIdx, aIdx, aLenStr, aConv, aFold, aMinMax, aEqV, aNilCheck, fillV, aEqBool, aEqInt, aEqStr, Nat.reduceAdd, Nat.reduceLeDiff, Nat.reduceMul, Int.reduceLT, Int.reduceLE, Int.reduceToNat, Int.reduceGT, Int.reduceGE, Int.reduceNeg, Int.reduceAdd, Int.reduceSub, wrap64, chkAdd, effAdd, AOp.kind, chkAll, chkSee, Nat.reduceLT, zP.down, zQ.down]; exact e9) | (simp -implicitDefEqProofs (disch := first | exact nbf rfl | exact nbt rfl | (simp only [ne_eq, reduceCtorEq, not_false_eq_true]; done) | omega | (simp -implicitDefEqProofs only [St.n_push, St.n_put, St.n_bump, List.length_set] <;> omega) | fail) only [aCallv, aPtrEq, XOp.kind, AOp.run, AO.eval, put, reduceCtorEq, aInt, Nat.reduceEqDiff, initEnv, V.bool, V.i64, resultsOf, AR.get, aExtract, aUn, Int.reduceEq, Int.reduceBEq, Int.reduceBNe, aBox, aLoad, aStore, aPart, aPlace, aArrAddr, aArrIdx, aIdx, aLenStr, aConv, aFold, aMinMax, aEqV, aNilCheck, fillV, aEqBool, aEqInt, aEqStr, Nat.reduceAdd, Nat.reduceLeDiff, Nat.reduceMul, Int.reduceLT, Int.reduceLE, Int.reduceToNat, Int.reduceGT, Int.reduceGE, Int.reduceNeg, Int.reduceAdd, Int.reduceSub, wrap64, chkAdd, effAdd, AOp.kind, chkAll, chkSee, Nat.reduceLT, zP.down, zQ.down]; rfl)
              · rintro m3 ρ3 σ3 ⟨j, hm3, hj, p0, p1, p2, p6, p7, p8, p9, p10, gd3, hk3⟩
                by_cases hjn : j < n
                · exact absurd hjn (by omega)
                · have c5 : decide ((j : Int) < (n : Int)) = false := by simpa using hjn
                  have hjn : j = n := by omega
                  subst hjn
                  simp -implicitDefEqProofs (disch := first | exact nbf rfl | exact nbt rfl | (simp only [ne_eq, reduceCtorEq, not_false_eq_true]; done) | omega | (simp -implicitDefEqProofs only [St.n_push, St.n_put, St.n_bump, List.length_set] <;> omega) | fail) only [c5, p9, p10, aCallv, aPtrEq, XOp.kind, AOp.run, AO.eval, put, reduceCtorEq, aInt, Nat.reduceEqDiff, initEnv, V.bool, V.i64, resultsOf, AR.get, aExtract, aUn, Int.reduceEq, Int.reduceBEq, Int.reduceBNe, aBox, aLoad, aStore, aPart, aPlace, aArrAddr, aArrIdx, aIdx, aLenStr, aConv, aFold, aMinMax, aEqV, aNilCheck, fillV, aEqBool, aEqInt, aEqStr, Nat.reduceAdd, Nat.reduceLeDiff, Nat.reduceMul, Int.reduceLT, Int.reduceLE, Int.reduceToNat, Int.reduceGT, Int.reduceGE, Int.reduceNeg, Int.reduceAdd, Int.reduceSub, wrap64, chkAdd, effAdd, AOp.kind, chkAll, chkSee, Nat.reduceLT, zP.down, zQ.down]
                  refine ⟨_, _, rfl, ?_, ?_, ?_, ?_, ?_, ?_, ?_, gd3, hk3⟩
                  all_goals first | (simp -implicitDefEqProofs (disch := first | exact nbf rfl | exact nbt rfl | (simp only [ne_eq, reduceCtorEq, not_false_eq_true]; done) | omega | (simp -implicitDefEqProofs only [St.n_push, St.n_put, St.n_bump, List.length_set] <;> omega) | fail) only [p0, p1, p2, p6, p7, p8, p9, p10, aCallv, aPtrEq, XOp.kind, AOp.run, AO.eval, put, reduceCtorEq, aInt, Nat.reduceEqDiff, initEnv, V.bool, V.i64, resultsOf, AR.get, aExtract, aUn, Int.reduceEq, Int.reduceBEq, Int.reduceBNe, aBox, aLoad, aStore, aPart, aPlace, aArrAddr, aArrIdx, aIdx, aLenStr, aConv, aFold, aMinMax, aEqV, aNilCheck, fillV, aEqBool, aEqInt, aEqStr, Nat.reduceAdd, Nat.reduceLeDiff, Nat.reduceMul, Int.reduceLT, Int.reduceLE, Int.reduceToNat, Int.reduceGT, Int.reduceGE, Int.reduceNeg, Int.reduceAdd, Int.reduceSub, wrap64, chkAdd, effAdd, AOp.kind, chkAll, chkSee, Nat.reduceLT, zP.down, zQ.down]; done) | (simp -implicitDefEqProofs (disch := first | exact nbf rfl | exact nbt rfl | (simp only [ne_eq, reduceCtorEq, not_false_eq_true]; done) | omega | (simp -implicitDefEqProofs only [St.n_push, St.n_put, St.n_bump, List.length_set] <;> omega) | fail) only [p0, p1, p2, p6, p7, p8, p9, p10, aCallv, aPtrEq, XOp.kind, AOp.run, AO.eval, put, reduceCtorEq, aInt, Nat.reduceEqDiff, initEnv, V.bool, V.i64, resultsOf, AR.get, aExtract, aUn, Int.reduceEq, Int.reduceBEq, Int.reduceBNe, aBox, aLoad, aStore, aPart, aPlace, aArrAddr, aArrIdx, aIdx, aLenStr, aConv, aFold, aMinMax, aEqV, aNilCheck, fillV, aEqBool, aEqInt, aEqStr, Nat.reduceAdd, Nat.reduceLeDiff, Nat.reduceMul, Int.reduceLT, Int.reduceLE, Int.reduceToNat, Int.reduceGT, Int.reduceGE, Int.reduceNeg, Int.reduceAdd, Int.reduceSub, wrap64, chkAdd, effAdd, AOp.kind, chkAll, chkSee, Nat.reduceLT, zP.down, zQ.down]; rfl)
            · rintro _ ⟨ρ3, σ3, rfl, p0, p1, p2, p6, p7, p8, p9, gd3, hk3⟩
              have hend : ∀ (σ4 : St) (x : S2), (M.f i).crash ((keep[i]?).getD 0) torn = ⟨x, []⟩ → σ4.get d = some (.cells cs) → Kept (· = d) σ σ4 →
                  RR (σ4.put d (some (.cells (splice cs (i * 3) [.sc (.bool x.there), .str x.s, .sc .nilS])))) d (M.part keep torn (i + 1)) ∧ Kept (· = d) σ (σ4.put d (some (.cells (splice cs (i * 3) [.sc (.bool x.there), .str x.s, .sc .nilS])))) := by
                intro σ4 x hx g1 k1
                refine ⟨⟨_, get_put_self g1, ?_⟩, k1.put (.inl rfl) (St.get_lt g1) _⟩
                rw [← part_succ]
                exact hc.file hl _ (by rw [hx]) x (by rw [hx])
              have w4 : IntKind.i64.wrap ((i : Int) + 1) = (i : Int) + 1 := wrap64 (by omega) (by omega)
              have hcr2 := hcr
              unfold FM.crashN at hcr2
              dsimp only at hcr2
              have hxl := seen_len (okl_take n hfm.1.ok) hfm.1.len
              by_cases q1 : n < (M.f i).loose.length
              · have c5 : decide ((n : Int) < ((M.f i).loose.length : Int)) = true := by simpa using q1
                obtain ⟨a1, a2, a3⟩ := hv.rv.at (i := n) (by simpa using q1)
                have b0 := hv.rv.cellAt (i := n) (j := 0) (by simpa using q1) (by omega)
                have b1 := hv.rv.cellAt (i := n) (j := 1) (by simpa using q1) (by omega)
                simp only [List.getElem_map, chc, List.getElem?_cons_zero, List.getElem?_cons_succ, Nat.add_zero] at b0 b1
                have hnn : (M.f i).loose[n]? = some (M.f i).loose[n] := List.getElem?_eq_getElem q1
                rw [hnn] at hcr2
                dsimp only at hcr2
                have hokn := okl_at q1 hfm.1.ok
                generalize hX : seenOf (M.f i).sure ((M.f i).loose.take n) = X at hcr2 hxl hokn p7
                generalize (M.f i).loose[n] = c at hcr2 hokn b0 b1
                by_cases q2 : c.k = 1
                · have d1 := beq_iff_eq.2 q2
                  by_cases q4 : 0 < c.s.length
                  · have d2 : decide ((c.s.length : Int) > 0) = true := by simpa using q4
                    by_cases q3 : 0 < torn
                    · have d3 : decide (torn > 0) = true := by simpa using q3
                      rw [if_pos ⟨q2, q4, q3⟩] at hcr2
                      have hlen1 : X.s.length + c.s.length ≤ 1048576 := by
                        rcases hokn with ⟨_, h⟩ | ⟨h, _⟩ | h
                        · exact h
                        · omega
                        · omega
                      have w5 : IntKind.i64.wrap ((c.s.length : Int) - 1) = (c.s.length : Int) - 1 := wrap64 (by omega) (by omega)
                      obtain ⟨t, ht⟩ : ∃ t : Nat, min torn ((c.s.length : Int) - 1) = t := ⟨(min torn ((c.s.length : Int) - 1)).toNat, by omega⟩
                      rw [ht, Int.toNat_natCast] at hcr2
                      have hd := fun σ => hdone σ X ⟨1, c.s.take t, 0⟩ (.inl ⟨rfl, by dsimp only; rw [List.length_take]; omega⟩)
                      have sl := sl_to (u := c.s) (n := t) (by omega)
                      simp only [chc, s2c] at hd p7
                      by_cases q5 : (c.s.length : Int) - 1 < torn
                      · have d4 : decide (torn > (c.s.length : Int) - 1) = true := by simpa using q5
                        have et : (c.s.length : Int) - 1 = t := by omega
                        have sl' : aSlice (.str c.s) none (some (.sc (.int .i64 ((c.s.length : Int) - 1)))) none = some (.str (c.s.take t)) := by rw [et]; exact sl
                        have gd4 : σ3.bump.bump.bump.get d = some (.cells cs) := by simp only [St.get_bump]; exact gd3
                        obtain ⟨r1, r2⟩ := hend _ _ hcr2 gd4 hk3.bump.bump.bump
                        simp -implicitDefEqProofs (disch := first | exact nbf rfl | exact nbt rfl | (simp only [ne_eq, reduceCtorEq, not_false_eq_true]; done) | omega | (simp -implicitDefEqProofs only [St.n_push, St.n_put, St.n_bump, List.length_set] <;> omega) | fail) only [p0, p1, p2, p6, p7, p8, p9, c5, d1, d2, d3, d4, a1, b0, b1, vlen, vsize, w5, sl', hd, gd3, ha, l1, w4, aCallv, aPtrEq, XOp.kind, AOp.run, AO.eval, put, reduceCtorEq, aInt, Nat.reduceEqDiff, initEnv, V.bool, V.i64, resultsOf, AR.get, aExtract, aUn, Int.reduceEq, Int.reduceBEq, Int.reduceBNe, aBox, aLoad, aStore, aPart, aPlace, aArrIdx, aIdx, aLenStr, aConv, aFold, aMinMax, aEqV, aNilCheck, fillV, aEqBool, aEqInt, aEqStr, Nat.reduceAdd, Nat.reduceLeDiff, Nat.reduceMul, Int.reduceLT, Int.reduceLE, Int.reduceToNat, Int.reduceGT, Int.reduceGE, Int.reduceNeg, Int.reduceAdd, Int.reduceSub, wrap64, chkAdd, effAdd, AOp.kind, chkAll, chkSee, Nat.reduceLT, zP.down, zQ.down]
                        exact ⟨32 - (i + 1), by omega, i + 1, rfl, by omega, by simp, r1, r2⟩
                      · have d4 : decide (torn > (c.s.length : Int) - 1) = false := by simpa using q5
                        have et : torn = t := by omega
                        have sl' : aSlice (.str c.s) none (some (.sc (.int .i64 torn))) none = some (.str (c.s.take t)) := by rw [et]; exact sl
                        have gd4 : σ3.bump.bump.bump.get d = some (.cells cs) := by simp only [St.get_bump]; exact gd3
                        obtain ⟨r1, r2⟩ := hend _ _ hcr2 gd4 hk3.bump.bump.bump
                        simp -implicitDefEqProofs (disch := first | exact nbf rfl | exact nbt rfl | (simp only [ne_eq, reduceCtorEq, not_false_eq_true]; done) | omega | (simp -implicitDefEqProofs only [St.n_push, St.n_put, St.n_bump, List.length_set] <;> omega) | fail) only [p0, p1, p2, p6, p7, p8, p9, c5, d1, d2, d3, d4, a1, b0, b1, vlen, vsize, w5, sl', hd, gd3, ha, l1, w4, aCallv, aPtrEq, XOp.kind, AOp.run, AO.eval, put, reduceCtorEq, aInt, Nat.reduceEqDiff, initEnv, V.bool, V.i64, resultsOf, AR.get, aExtract, aUn, Int.reduceEq, Int.reduceBEq, Int.reduceBNe, aBox, aLoad, aStore, aPart, aPlace, aArrIdx, aIdx, aLenStr, aConv, aFold, aMinMax, aEqV, aNilCheck, fillV, aEqBool, aEqInt, aEqStr, Nat.reduceAdd, Nat.reduceLeDiff, Nat.reduceMul, Int.reduceLT, Int.reduceLE, Int.reduceToNat, Int.reduceGT, Int.reduceGE, Int.reduceNeg, Int.reduceAdd, Int.reduceSub, wrap64, chkAdd, effAdd, AOp.kind, chkAll, chkSee, Nat.reduceLT, zP.down, zQ.down]
                        exact ⟨32 - (i + 1), by omega, i + 1, rfl, by omega, by simp, r1, r2⟩
                    · have d3 : decide (torn > 0) = false := by simpa using q3
                      rw [if_neg (fun h => q3 h.2.2)] at hcr2
                      obtain ⟨r1, r2⟩ := hend _ _ hcr2 gd3 hk3
                      simp only [s2c] at p7
                      simp -implicitDefEqProofs (disch := first | exact nbf rfl | exact nbt rfl | (simp only [ne_eq, reduceCtorEq, not_false_eq_true]; done) | omega | (simp -implicitDefEqProofs only [St.n_push, St.n_put, St.n_bump, List.length_set] <;> omega) | fail) only [p0, p1, p2, p6, p7, p8, p9, c5, d1, d2, d3, a1, b0, b1, vlen, vsize, gd3, ha, l1, w4, aCallv, aPtrEq, XOp.kind, AOp.run, AO.eval, put, reduceCtorEq, aInt, Nat.reduceEqDiff, initEnv, V.bool, V.i64, resultsOf, AR.get, aExtract, aUn, Int.reduceEq, Int.reduceBEq, Int.reduceBNe, aBox, aLoad, aStore, aPart, aPlace, aArrIdx, aIdx, aLenStr, aConv, aFold, aMinMax, aEqV, aNilCheck, fillV, aEqBool, aEqInt, aEqStr, Nat.reduceAdd, Nat.reduceLeDiff, Nat.reduceMul, Int.reduceLT, Int.reduceLE, Int.reduceToNat, Int.reduceGT, Int.reduceGE, Int.reduceNeg, Int.reduceAdd, Int.reduceSub, wrap64, chkAdd, effAdd, AOp.kind, chkAll, chkSee, Nat.reduceLT, zP.down, zQ.down]
                      exact ⟨32 - (i + 1), by omega, i + 1, rfl, by omega, by simp, r1, r2⟩
                  · have d2 : decide ((c.s.length : Int) > 0) = false := by simpa using q4
                    rw [if_neg (fun h => q4 h.2.1)] at hcr2
                    obtain ⟨r1, r2⟩ := hend _ _ hcr2 gd3 hk3
                    simp only [s2c] at p7
                    simp -implicitDefEqProofs (disch := first | exact nbf rfl | exact nbt rfl | (simp only [ne_eq, reduceCtorEq, not_false_eq_true]; done) | omega | (simp -implicitDefEqProofs only [St.n_push, St.n_put, St.n_bump, List.length_set] <;> omega) | fail) only [p0, p1, p2, p6, p7, p8, p9, c5, d1, d2, a1, b0, b1, vlen, vsize, gd3, ha, l1, w4, aCallv, aPtrEq, XOp.kind, AOp.run, AO.eval, put, reduceCtorEq, aInt, Nat.reduceEqDiff, initEnv, V.bool, V.i64, resultsOf, AR.get, aExtract, aUn, Int.reduceEq, Int.reduceBEq, Int.reduceBNe, aBox, aLoad, aStore, aPart, aPlace, aArrIdx, aIdx, aLenStr, aConv, aFold, aMinMax, aEqV, aNilCheck, fillV, aEqBool, aEqInt, aEqStr, Nat.reduceAdd, Nat.reduceLeDiff, Nat.reduceMul, Int.reduceLT, Int.reduceLE, Int.reduceToNat, Int.reduceGT, Int.reduceGE, Int.reduceNeg, Int.reduceAdd, Int.reduceSub, wrap64, chkAdd, effAdd, AOp.kind, chkAll, chkSee, Nat.reduceLT, zP.down, zQ.down]
                    exact ⟨32 - (i + 1), by omega, i + 1, rfl, by omega, by simp, r1, r2⟩
                · have d1 := beq_eq_false_iff_ne.2 q2
                  rw [if_neg (fun h => q2 h.1)] at hcr2
                  obtain ⟨r1, r2⟩ := hend _ _ hcr2 gd3 hk3
                  simp only [s2c] at p7
                  simp -implicitDefEqProofs (disch := first | exact nbf rfl | exact nbt rfl | (simp only [ne_eq, reduceCtorEq, not_false_eq_true]; done) | omega | (simp -implicitDefEqProofs only [St.n_push, St.n_put, St.n_bump, List.length_set] <;> omega) | fail) only [p0, p1, p2, p6, p7, p8, p9, c5, d1, a1, b0, b1, vlen, vsize, gd3, ha, l1, w4, aCallv, aPtrEq, XOp.kind, AOp.run, AO.eval, put, reduceCtorEq, aInt, Nat.reduceEqDiff, initEnv, V.bool, V.i64, resultsOf, AR.get, aExtract, aUn, Int.reduceEq, Int.reduceBEq, Int.reduceBNe, aBox, aLoad, aStore, aPart, aPlace, aArrIdx, aIdx, aLenStr, aConv, aFold, aMinMax, aEqV, aNilCheck, fillV, aEqBool, aEqInt, aEqStr, Nat.reduceAdd, Nat.reduceLeDiff, Nat.reduceMul, Int.reduceLT, Int.reduceLE, Int.reduceToNat, Int.reduceGT, Int.reduceGE, Int.reduceNeg, Int.reduceAdd, Int.reduceSub, wrap64, chkAdd, effAdd, AOp.kind, chkAll, chkSee, Nat.reduceLT, zP.down, zQ.down]
                  exact ⟨32 - (i + 1), by omega, i + 1, rfl, by omega, by simp, r1, r2⟩
              · have c5 : decide ((n : Int) < ((M.f i).loose.length : Int)) = false := by simpa using q1
                have hnn : (M.f i).loose[n]? = none := List.getElem?_eq_none (by omega)
                rw [hnn] at hcr2
                dsimp only at hcr2
                obtain ⟨r1, r2⟩ := hend _ _ hcr2 gd3 hk3
                simp only [s2c] at p7
                simp -implicitDefEqProofs (disch := first | exact nbf rfl | exact nbt rfl | (simp only [ne_eq, reduceCtorEq, not_false_eq_true]; done) | omega | (simp -implicitDefEqProofs only [St.n_push, St.n_put, St.n_bump, List.length_set] <;> omega) | fail) only [p0, p1, p2, p6, p7, p8, p9, c5, vlen, vsize, gd3, ha, l1, w4, aCallv, aPtrEq, XOp.kind, AOp.run, AO.eval, put, reduceCtorEq, aInt, Nat.reduceEqDiff, initEnv, V.bool, V.i64, resultsOf, AR.get, aExtract, aUn, Int.reduceEq, Int.reduceBEq, Int.reduceBNe, aBox, aLoad, aStore, aPart, aPlace, aArrIdx, aIdx, aLenStr, aConv, aFold, aMinMax, aEqV, aNilCheck, fillV, aEqBool, aEqInt, aEqStr, Nat.reduceAdd, Nat.reduceLeDiff, Nat.reduceMul, Int.reduceLT, Int.reduceLE, Int.reduceToNat, Int.reduceGT, Int.reduceGE, Int.reduceNeg, Int.reduceAdd, Int.reduceSub, wrap64, chkAdd, effAdd, AOp.kind, chkAll, chkSee, Nat.reduceLT, zP.down, zQ.down]
                exact ⟨32 - (i + 1), by omega, i + 1, rfl, by omega, by simp, r1, r2⟩
        · have c2 : decide ((i : Int) < (keep.length : Int)) = false := by simpa using hki
          have c4 : decide ((0 : Int) > ((M.f i).loose.length : Int)) = false := by simp
          have hkg : (keep[i]?).getD 0 = 0 := by rw [List.getElem?_eq_none (by omega)]; rfl
          have hn0 : n = 0 := by rw [hkg] at hn; omega
          have e9 : (.sc (.int .i64 0) : V) = .sc (.int .i64 (n : Int)) := by rw [hn0]; rfl
          simp -implicitDefEqProofs (disch := first | exact nbf rfl | exact nbt rfl | (simp only [ne_eq, reduceCtorEq, not_false_eq_true]; done) | omega | (simp -implicitDefEqProofs only [St.n_push, St.n_put, St.n_bump, List.length_set] <;> omega) | fail) only [c1, c2, c4, e0, e1, e2, e6, klen, ksize, ha, g, l2, t1, v2, hcell.1, hcell.2, vlen, vsize, hσb, gb, aCallv, aPtrEq, XOp.kind, AOp.run, AO.eval, put, reduceCtorEq, aInt, Nat.reduceEqDiff, initEnv, V.bool, V.i64, resultsOf, AR.get, aExtract, aUn, Int.reduceEq, Int.reduceBEq, Int.reduceBNe, aBox, aLoad, aStore, aPart, aPlace, aArrIdx, aIdx, aLenStr, aConv, aFold, aMinMax, aEqV, aNilCheck, fillV, aEqBool, aEqInt, aEqStr, Nat.reduceAdd, Nat.reduceLeDiff, Nat.reduceMul, Int.reduceLT, Int.reduceLE, Int.reduceToNat, Int.reduceGT, Int.reduceGE, Int.reduceNeg, Int.reduceAdd, Int.reduceSub, wrap64, chkAdd, effAdd, AOp.kind, chkAll, chkSee, Nat.reduceLT, zP.down, zQ.down]
          repeat (first | refine w_fin ?_ | refine w_seq ?_ | refine w_block ?_ | refine w_reg ?_ | refine w_op ?_ | refine w_dop ?_)
          refine W.mono (Q := fun r => ∃ (ρ3 : Env) (σ3 : St), r = ((.exit 2 : Ex), ρ3, σ3) ∧ ρ3 0 = .ptr d 0 ∧ ρ3 1 = kv ∧ ρ3 2 = .sc (.int .i64 torn) ∧ ρ3 6 = .sc (.int .i64 i) ∧ ρ3 7 = .agg (s2c (seenOf (M.f i).sure ((M.f i).loose.take n))) ∧ ρ3 8 = v ∧ ρ3 9 = .sc (.int .i64 n) ∧ σ3.get d = some (.cells cs) ∧ Kept (· = d) σ σ3) ?_ ?_
          · refine w_loop (fun m ρ3 σ3 => ∃ (j : Nat), m = n - j ∧ j ≤ n ∧ ρ3 0 = .ptr d 0 ∧ ρ3 1 = kv ∧ ρ3 2 = .sc (.int .i64 torn) ∧ ρ3 6 = .sc (.int .i64 i) ∧ ρ3 7 = .agg (s2c (seenOf (M.f i).sure ((M.f i).loose.take j))) ∧ ρ3 8 = v ∧ ρ3 9 = .sc (.int .i64 n) ∧ ρ3 10 = .sc (.int .i64 j) ∧ σ3.get d = some (.cells cs) ∧ Kept (· = d) σ σ3) n (by omega) ?_ ?_
            · refine ⟨0, rfl, Nat.zero_le _, ?_, ?_, ?_, ?_, ?_, ?_, ?_, ?_, gb, kb⟩
              all_goals first | rfl | (simp -implicitDefEqProofs (disch := first | exact nbf rfl | exact nbt rfl | (simp only [ne_eq, reduceCtorEq, not_false_eq_true]; done) | omega | (simp -implicitDefEqProofs only [St.n_push, St.n_put, St.n_bump, List.length_set] <;> omega) | fail) only [e0, e1, e2, e6, aCallv, aPtrEq, XOp.kind, AOp.run, AO.eval, put, reduceCtorEq, aInt, Nat.reduceEqDiff, initEnv, V.bool, V.i64, resultsOf, AR.get, aExtract, aUn, Int.reduceEq, Int.reduceBEq, Int.reduceBNe, aBox, aLoad, aStore, aPart, aPlace, aArrAddr, aArrIdx, aIdx, aLenStr, aConv, aFold, aMinMax, aEqV, aNilCheck, fillV, aEqBool, aEqInt, aEqStr, Nat.reduceAdd, Nat.reduceLeDiff, Nat.reduceMul, Int.reduceLT, Int.reduceLE, Int.reduceToNat, Int.reduceGT, Int.reduceGE, Int.reduceNeg, Int.reduceAdd, Int.reduceSub, wrap64, chkAdd, effAdd, AOp.kind, chkAll, chkSee, Nat.reduceLT, zP.down, zQ.down]; done) | (simp -implicitDefEqProofs (disch := first | exact nbf rfl | exact nbt rfl | (simp only [ne_eq, reduceCtorEq, not_false_eq_true]; done) | omega | (simp -implicitDefEqProofs only [St.n_push, St.n_put, St.n_bump, List.length_set] <;> omega) | fail) only [aCallv, aPtrEq, XOp.kind, AOp.run, AO.eval, put, reduceCtorEq, aInt, Nat.reduceEqDiff, initEnv, V.bool, V.i64, resultsOf, AR.get, aExtract, aUn, Int.reduceEq, Int.reduceBEq, Int.reduceBNe, aBox, aLoad, aStore, aPart, aPlace, aArrAddr, aArrIdx, aIdx, aLenStr, aConv, aFold, aMinMax, aEqV, aNilCheck, fillV, aEqBool, aEqInt, aEqStr, Nat.reduceAdd, Nat.reduceLeDiff, Nat.reduceMul, Int.reduceLT, Int.reduceLE, Int.reduceToNat, Int.reduceGT, Int.reduceGE, Int.reduceNeg, Int.reduceAdd, Int.reduceSub, wrap64, chkAdd, effAdd, AOp.kind, chkAll, chkSee, Nat.reduceLT, zP.down, zQ.down]; exact e9) | (simp -implicitDefEqProofs (disch := first | exact nbf rfl | exact nbt rfl | (simp only [ne_eq, reduceCtorEq, not_false_eq_true]; done) | omega | (simp -implicitDefEqProofs only [St.n_push, St.n_put, St.n_bump, List.length_set] <;> omega) | fail) only [aCallv, aPtrEq, XOp.kind, AOp.run, AO.eval, put, reduceCtorEq, aInt, Nat.reduceEqDiff, initEnv, V.bool, V.i64, resultsOf, AR.get, aExtract, aUn, Int.reduceEq, Int.reduceBEq, Int.reduceBNe, aBox, aLoad, aStore, aPart, aPlace, aArrAddr, aArrIdx, aIdx, aLenStr, aConv, aFold, aMinMax, aEqV, aNilCheck, fillV, aEqBool, aEqInt, aEqStr, Nat.reduceAdd, Nat.reduceLeDiff, Nat.reduceMul, Int.reduceLT, Int.reduceLE, Int.reduceToNat, Int.reduceGT, Int.reduceGE, Int.reduceNeg, Int.reduceAdd, Int.reduceSub, wrap64, chkAdd, effAdd, AOp.kind, chkAll, chkSee, Nat.reduceLT, zP.down, zQ.down]; rfl)
            · rintro m3 ρ3 σ3 ⟨j, hm3, hj, p0, p1, p2, p6, p7, p8, p9, p10, gd3, hk3⟩
              by_cases hjn : j < n
              · exact absurd hjn (by omega)
              · have c5 : decide ((j : Int) < (n : Int)) = false := by simpa using hjn
                have hjn : j = n := by omega
                subst hjn
                simp -implicitDefEqProofs (disch := first | exact nbf rfl | exact nbt rfl | (simp only [ne_eq, reduceCtorEq, not_false_eq_true]; done) | omega | (simp -implicitDefEqProofs only [St.n_push, St.n_put, St.n_bump, List.length_set] <;> omega) | fail) only [c5, p9, p10, aCallv, aPtrEq, XOp.kind, AOp.run, AO.eval, put, reduceCtorEq, aInt, Nat.reduceEqDiff, initEnv, V.bool, V.i64, resultsOf, AR.get, aExtract, aUn, Int.reduceEq, Int.reduceBEq, Int.reduceBNe, aBox, aLoad, aStore, aPart, aPlace, aArrAddr, aArrIdx, aIdx, aLenStr, aConv, aFold, aMinMax, aEqV, aNilCheck, fillV, aEqBool, aEqInt, aEqStr, Nat.reduceAdd, Nat.reduceLeDiff, Nat.reduceMul, Int.reduceLT, Int.reduceLE, Int.reduceToNat, Int.reduceGT, Int.reduceGE, Int.reduceNeg, Int.reduceAdd, Int.reduceSub, wrap64, chkAdd, effAdd, AOp.kind, chkAll, chkSee, Nat.reduceLT, zP.down, zQ.down]
                refine ⟨_, _, rfl, ?_, ?_, ?_, ?_, ?_, ?_, ?_, gd3, hk3⟩
                all_goals first | (simp -implicitDefEqProofs (disch := first | exact nbf rfl | exact nbt rfl | (simp only [ne_eq, reduceCtorEq, not_false_eq_true]; done) | omega | (simp -implicitDefEqProofs only [St.n_push, St.n_put, St.n_bump, List.length_set] <;> omega) | fail) only [p0, p1, p2, p6, p7, p8, p9, p10, aCallv, aPtrEq, XOp.kind, AOp.run, AO.eval, put, reduceCtorEq, aInt, Nat.reduceEqDiff, initEnv, V.bool, V.i64, resultsOf, AR.get, aExtract, aUn, Int.reduceEq, Int.reduceBEq, Int.reduceBNe, aBox, aLoad, aStore, aPart, aPlace, aArrAddr, aArrIdx, aIdx, aLenStr, aConv, aFold, aMinMax, aEqV, aNilCheck, fillV, aEqBool, aEqInt, aEqStr, Nat.reduceAdd, Nat.reduceLeDiff, Nat.reduceMul, Int.reduceLT, Int.reduceLE, Int.reduceToNat, Int.reduceGT, Int.reduceGE, Int.reduceNeg, Int.reduceAdd, Int.reduceSub, wrap64, chkAdd, effAdd, AOp.kind, chkAll, chkSee, Nat.reduceLT, zP.down, zQ.down]; done) | (simp -implicitDefEqProofs (disch := first | exact nbf rfl | exact nbt rfl | (simp only [ne_eq, reduceCtorEq, not_false_eq_true]; done) | omega | (simp -implicitDefEqProofs only [St.n_push, St.n_put, St.n_bump, List.length_set] <;> omega) | fail) only [p0, p1, p2, p6, p7, p8, p9, p10, aCallv, aPtrEq, XOp.kind, AOp.run, AO.eval, put, reduceCtorEq, aInt, Nat.reduceEqDiff, initEnv, V.bool, V.i64, resultsOf, AR.get, aExtract, aUn, Int.reduceEq, Int.reduceBEq, Int.reduceBNe, aBox, aLoad, aStore, aPart, aPlace, aArrAddr, aArrIdx, aIdx, aLenStr, aConv, aFold, aMinMax, aEqV, aNilCheck, fillV, aEqBool, aEqInt, aEqStr, Nat.reduceAdd, Nat.reduceLeDiff, Nat.reduceMul, Int.reduceLT, Int.reduceLE, Int.reduceToNat, Int.reduceGT, Int.reduceGE, Int.reduceNeg, Int.reduceAdd, Int.reduceSub, wrap64, chkAdd, effAdd, AOp.kind, chkAll, chkSee, Nat.reduceLT, zP.down, zQ.down]; rfl)
          · rintro _ ⟨ρ3, σ3, rfl, p0, p1, p2, p6, p7, p8, p9, gd3, hk3⟩
            have hend : ∀ (σ4 : St) (x : S2), (M.f i).crash ((keep[i]?).getD 0) torn = ⟨x, []⟩ → σ4.get d = some (.cells cs) → Kept (· = d) σ σ4 →
                RR (σ4.put d (some (.cells (splice cs (i * 3) [.sc (.bool x.there), .str x.s, .sc .nilS])))) d (M.part keep torn (i + 1)) ∧ Kept (· = d) σ (σ4.put d (some (.cells (splice cs (i * 3) [.sc (.bool x.there), .str x.s, .sc .nilS])))) := by
              intro σ4 x hx g1 k1
              refine ⟨⟨_, get_put_self g1, ?_⟩, k1.put (.inl rfl) (St.get_lt g1) _⟩
              rw [← part_succ]
              exact hc.file hl _ (by rw [hx]) x (by rw [hx])
            have w4 : IntKind.i64.wrap ((i : Int) + 1) = (i : Int) + 1 := wrap64 (by omega) (by omega)
            have hcr2 := hcr
            unfold FM.crashN at hcr2
            dsimp only at hcr2
            have hxl := seen_len (okl_take n hfm.1.ok) hfm.1.len
            by_cases q1 : n < (M.f i).loose.length
            · have c5 : decide ((n : Int) < ((M.f i).loose.length : Int)) = true := by simpa using q1
              obtain ⟨a1, a2, a3⟩ := hv.rv.at (i := n) (by simpa using q1)
              have b0 := hv.rv.cellAt (i := n) (j := 0) (by simpa using q1) (by omega)
              have b1 := hv.rv.cellAt (i := n) (j := 1) (by simpa using q1) (by omega)
              simp only [List.getElem_map, chc, List.getElem?_cons_zero, List.getElem?_cons_succ, Nat.add_zero] at b0 b1
              have hnn : (M.f i).loose[n]? = some (M.f i).loose[n] := List.getElem?_eq_getElem q1
              rw [hnn] at hcr2
              dsimp only at hcr2
              have hokn := okl_at q1 hfm.1.ok
              generalize hX : seenOf (M.f i).sure ((M.f i).loose.take n) = X at hcr2 hxl hokn p7
              generalize (M.f i).loose[n] = c at hcr2 hokn b0 b1
              by_cases q2 : c.k = 1
              · have d1 := beq_iff_eq.2 q2
                by_cases q4 : 0 < c.s.length
                · have d2 : decide ((c.s.length : Int) > 0) = true := by simpa using q4
                  by_cases q3 : 0 < torn
                  · have d3 : decide (torn > 0) = true := by simpa using q3
                    rw [if_pos ⟨q2, q4, q3⟩] at hcr2
                    have hlen1 : X.s.length + c.s.length ≤ 1048576 := by
                      rcases hokn with ⟨_, h⟩ | ⟨h, _⟩ | h
                      · exact h
                      · omega
                      · omega
                    have w5 : IntKind.i64.wrap ((c.s.length : Int) - 1) = (c.s.length : Int) - 1 := wrap64 (by omega) (by omega)
                    obtain ⟨t, ht⟩ : ∃ t : Nat, min torn ((c.s.length : Int) - 1) = t := ⟨(min torn ((c.s.length : Int) - 1)).toNat, by omega⟩
                    rw [ht, Int.toNat_natCast] at hcr2
                    have hd := fun σ => hdone σ X ⟨1, c.s.take t, 0⟩ (.inl ⟨rfl, by dsimp only; rw [List.length_take]; omega⟩)
                    have sl := sl_to (u := c.s) (n := t) (by omega)
                    simp only [chc, s2c] at hd p7
                    by_cases q5 : (c.s.length : Int) - 1 < torn
                    · have d4 : decide (torn > (c.s.length : Int) - 1) = true := by simpa using q5
                      have et : (c.s.length : Int) - 1 = t := by omega
                      have sl' : aSlice (.str c.s) none (some (.sc (.int .i64 ((c.s.length : Int) - 1)))) none = some (.str (c.s.take t)) := by rw [et]; exact sl
                      have gd4 : σ3.bump.bump.bump.get d = some (.cells cs) := by simp only [St.get_bump]; exact gd3
                      obtain ⟨r1, r2⟩ := hend _ _ hcr2 gd4 hk3.bump.bump.bump
                      simp -implicitDefEqProofs (disch := first | exact nbf rfl | exact nbt rfl | (simp only [ne_eq, reduceCtorEq, not_false_eq_true]; done) | omega | (simp -implicitDefEqProofs only [St.n_push, St.n_put, St.n_bump, List.length_set] <;> omega) | fail) only [p0, p1, p2, p6, p7, p8, p9, c5, d1, d2, d3, d4, a1, b0, b1, vlen, vsize, w5, sl', hd, gd3, ha, l1, w4, aCallv, aPtrEq, XOp.kind, AOp.run, AO.eval, put, reduceCtorEq, aInt, Nat.reduceEqDiff, initEnv, V.bool, V.i64, resultsOf, AR.get, aExtract, aUn, Int.reduceEq, Int.reduceBEq, Int.reduceBNe, aBox, aLoad, aStore, aPart, aPlace, aArrIdx, aIdx, aLenStr, aConv, aFold, aMinMax, aEqV, aNilCheck, fillV, aEqBool, aEqInt, aEqStr, Nat.reduceAdd, Nat.reduceLeDiff, Nat.reduceMul, Int.reduceLT, Int.reduceLE, Int.reduceToNat, Int.reduceGT, Int.reduceGE, Int.reduceNeg, Int.reduceAdd, Int.reduceSub, wrap64, chkAdd, effAdd, AOp.kind, chkAll, chkSee, Nat.reduceLT, zP.down, zQ.down]
                      exact ⟨32 - (i + 1), by omega, i + 1, rfl, by omega, by simp, r1, r2⟩
                    · have d4 : decide (torn > (c.s.length : Int) - 1) = false := by simpa using q5
                      have et : torn = t := by omega
                      have sl' : aSlice (.str c.s) none (some (.sc (.int .i64 torn))) none = some (.str (c.s.take t)) := by rw [et]; exact sl
                      have gd4 : σ3.bump.bump.bump.get d = some (.cells cs) := by simp only [St.get_bump]; exact gd3
                      obtain ⟨r1, r2⟩ := hend _ _ hcr2 gd4 hk3.bump.bump.bump
                      simp -implicitDefEqProofs (disch := first | exact nbf rfl | exact nbt rfl | (simp only [ne_eq, reduceCtorEq, not_false_eq_true]; done) | omega | (simp -implicitDefEqProofs only [St.n_push, St.n_put, St.n_bump, List.length_set] <;> omega) | fail) only [p0, p1, p2, p6, p7, p8, p9, c5, d1, d2, d3, d4, a1, b0, b1, vlen, vsize, w5, sl', hd, gd3, ha, l1, w4, aCallv, aPtrEq, XOp.kind, AOp.run, AO.eval, put, reduceCtorEq, aInt, Nat.reduceEqDiff, initEnv, V.bool, V.i64, resultsOf, AR.get, aExtract, aUn, Int.reduceEq, Int.reduceBEq, Int.reduceBNe, aBox, aLoad, aStore, aPart, aPlace, aArrIdx, aIdx, aLenStr, aConv, aFold, aMinMax, aEqV, aNilCheck, fillV, aEqBool, aEqInt, aEqStr, Nat.reduceAdd, Nat.reduceLeDiff, Nat.reduceMul, Int.reduceLT, Int.reduceLE, Int.reduceToNat, Int.reduceGT, Int.reduceGE, Int.reduceNeg, Int.reduceAdd, Int.reduceSub, wrap64, chkAdd, effAdd, AOp.kind, chkAll, chkSee, Nat.reduceLT, zP.down, zQ.down]
                      exact ⟨32 - (i + 1), by omega, i + 1, rfl, by omega, by simp, r1, r2⟩
                  · have d3 : decide (torn > 0) = false := by simpa using q3
                    rw [if_neg (fun h => q3 h.2.2)] at hcr2
                    obtain ⟨r1, r2⟩ := hend _ _ hcr2 gd3 hk3
                    simp only [s2c] at p7
                    simp -implicitDefEqProofs (disch := first | exact nbf rfl | exact nbt rfl | (simp only [ne_eq, reduceCtorEq, not_false_eq_true]; done) | omega | (simp -implicitDefEqProofs only [St.n_push, St.n_put, St.n_bump, List.length_set] <;> omega) | fail) only [p0, p1, p2, p6, p7, p8, p9, c5, d1, d2, d3, a1, b0, b1, vlen, vsize, gd3, ha, l1, w4, aCallv, aPtrEq, XOp.kind, AOp.run, AO.eval, put, reduceCtorEq, aInt, Nat.reduceEqDiff, initEnv, V.bool, V.i64, resultsOf, AR.get, aExtract, aUn, Int.reduceEq, Int.reduceBEq, Int.reduceBNe, aBox, aLoad, aStore, aPart, aPlace, aArrIdx, aIdx, aLenStr, aConv, aFold, aMinMax, aEqV, aNilCheck, fillV, aEqBool, aEqInt, aEqStr, Nat.reduceAdd, Nat.reduceLeDiff, Nat.reduceMul, Int.reduceLT, Int.reduceLE, Int.reduceToNat, Int.reduceGT, Int.reduceGE, Int.reduceNeg, Int.reduceAdd, Int.reduceSub, wrap64, chkAdd, effAdd, AOp.kind, chkAll, chkSee, Nat.reduceLT, zP.down, zQ.down]
                    exact ⟨32 - (i + 1), by omega, i + 1, rfl, by omega, by simp, r1, r2⟩
                · have d2 : decide ((c.s.length : Int) > 0) = false := by simpa using q4
                  rw [if_neg (fun h => q4 h.2.1)] at hcr2
                  obtain ⟨r1, r2⟩ := hend _ _ hcr2 gd3 hk3
                  simp only [s2c] at p7
                  simp -implicitDefEqProofs (disch := first | exact nbf rfl | exact nbt rfl | (simp only [ne_eq, reduceCtorEq, not_false_eq_true]; done) | omega | (simp -implicitDefEqProofs only [St.n_push, St.n_put, St.n_bump, List.length_set] <;> omega) | fail) only [p0, p1, p2, p6, p7, p8, p9, c5, d1, d2, a1, b0, b1, vlen, vsize, gd3, ha, l1, w4, aCallv, aPtrEq, XOp.kind, AOp.run, AO.eval, put, reduceCtorEq, aInt, Nat.reduceEqDiff, initEnv, V.bool, V.i64, resultsOf, AR.get, aExtract, aUn, Int.reduceEq, Int.reduceBEq, Int.reduceBNe, aBox, aLoad, aStore, aPart, aPlace, aArrIdx, aIdx, aLenStr, aConv, aFold, aMinMax, aEqV, aNilCheck, fillV, aEqBool, aEqInt, aEqStr, Nat.reduceAdd, Nat.reduceLeDiff, Nat.reduceMul, Int.reduceLT, Int.reduceLE, Int.reduceToNat, Int.reduceGT, Int.reduceGE, Int.reduceNeg, Int.reduceAdd, Int.reduceSub, wrap64, chkAdd, effAdd, AOp.kind, chkAll, chkSee, Nat.reduceLT, zP.down, zQ.down]
                  exact ⟨32 - (i + 1), by omega, i + 1, rfl, by omega, by simp, r1, r2⟩
              · have d1 := beq_eq_false_iff_ne.2 q2
                rw [if_neg (fun h => q2 h.1)] at hcr2
                obtain ⟨r1, r2⟩ := hend _ _ hcr2 gd3 hk3
                simp only [s2c] at p7
                simp -implicitDefEqProofs (disch := first | exact nbf rfl | exact nbt rfl | (simp only [ne_eq, reduceCtorEq, not_false_eq_true]; done) | omega | (simp -implicitDefEqProofs only [St.n_push, St.n_put, St.n_bump, List.length_set] <;> omega) | fail) only [p0, p1, p2, p6, p7, p8, p9, c5, d1, a1, b0, b1, vlen, vsize, gd3, ha, l1, w4, aCallv, aPtrEq, XOp.kind, AOp.run, AO.eval, put, reduceCtorEq, aInt, Nat.reduceEqDiff, initEnv, V.bool, V.i64, resultsOf, AR.get, aExtract, aUn, Int.reduceEq, Int.reduceBEq, Int.reduceBNe, aBox, aLoad, aStore, aPart, aPlace, aArrIdx, aIdx, aLenStr, aConv, aFold, aMinMax, aEqV, aNilCheck, fillV, aEqBool, aEqInt, aEqStr, Nat.reduceAdd, Nat.reduceLeDiff, Nat.reduceMul, Int.reduceLT, Int.reduceLE, Int.reduceToNat, Int.reduceGT, Int.reduceGE, Int.reduceNeg, Int.reduceAdd, Int.reduceSub, wrap64, chkAdd, effAdd, AOp.kind, chkAll, chkSee, Nat.reduceLT, zP.down, zQ.down]
                exact ⟨32 - (i + 1), by omega, i + 1, rfl, by omega, by simp, r1, r2⟩
            · have c5 : decide ((n : Int) < ((M.f i).loose.length : Int)) = false := by simpa using q1
              have hnn : (M.f i).loose[n]? = none := List.getElem?_eq_none (by omega)
              rw [hnn] at hcr2
              dsimp only at hcr2
              obtain ⟨r1, r2⟩ := hend _ _ hcr2 gd3 hk3
              simp only [s2c] at p7
              simp -implicitDefEqProofs (disch := first | exact nbf rfl | exact nbt rfl | (simp only [ne_eq, reduceCtorEq, not_false_eq_true]; done) | omega | (simp -implicitDefEqProofs only [St.n_push, St.n_put, St.n_bump, List.length_set] <;> omega) | fail) only [p0, p1, p2, p6, p7, p8, p9, c5, vlen, vsize, gd3, ha, l1, w4, aCallv, aPtrEq, XOp.kind, AOp.run, AO.eval, put, reduceCtorEq, aInt, Nat.reduceEqDiff, initEnv, V.bool, V.i64, resultsOf, AR.get, aExtract, aUn, Int.reduceEq, Int.reduceBEq, Int.reduceBNe, aBox, aLoad, aStore, aPart, aPlace, aArrIdx, aIdx, aLenStr, aConv, aFold, aMinMax, aEqV, aNilCheck, fillV, aEqBool, aEqInt, aEqStr, Nat.reduceAdd, Nat.reduceLeDiff, Nat.reduceMul, Int.reduceLT, Int.reduceLE, Int.reduceToNat, Int.reduceGT, Int.reduceGE, Int.reduceNeg, Int.reduceAdd, Int.reduceSub, wrap64, chkAdd, effAdd, AOp.kind, chkAll, chkSee, Nat.reduceLT, zP.down, zQ.down]
              exact ⟨32 - (i + 1), by omega, i + 1, rfl, by omega, by simp, r1, r2⟩
      · have c1 : decide ((i : Int) < 32) = false := by simp; omega
        have : i = 32 := by omega
        subst this
        simp -implicitDefEqProofs (disch := first | exact nbf rfl | exact nbt rfl | (simp only [ne_eq, reduceCtorEq, not_false_eq_true]; done) | omega | (simp -implicitDefEqProofs only [St.n_push, St.n_put, St.n_bump, List.length_set] <;> omega) | fail) only [c1, e0, e6, aCallv, aPtrEq, XOp.kind, AOp.run, AO.eval, put, reduceCtorEq, aInt, Nat.reduceEqDiff, initEnv, V.bool, V.i64, resultsOf, AR.get, aExtract, aUn, Int.reduceEq, Int.reduceBEq, Int.reduceBNe, aBox, aLoad, aStore, aPart, aPlace, aArrAddr, aArrIdx, aIdx, aLenStr, aConv, aFold, aMinMax, aEqV, aNilCheck, fillV, aEqBool, aEqInt, aEqStr, Nat.reduceAdd, Nat.reduceLeDiff, Nat.reduceMul, Int.reduceLT, Int.reduceLE, Int.reduceToNat, Int.reduceGT, Int.reduceGE, Int.reduceNeg, Int.reduceAdd, Int.reduceSub, wrap64, chkAdd, effAdd, AOp.kind, chkAll, chkSee, Nat.reduceLT, zP.down, zQ.down]
        refine ⟨_, _, rfl, ?_, hd, hkept⟩
        simp -implicitDefEqProofs (disch := first | exact nbf rfl | exact nbt rfl | (simp only [ne_eq, reduceCtorEq, not_false_eq_true]; done) | omega | (simp -implicitDefEqProofs only [St.n_push, St.n_put, St.n_bump, List.length_set] <;> omega) | fail) only [e0, aCallv, aPtrEq, XOp.kind, AOp.run, AO.eval, put, reduceCtorEq, aInt, Nat.reduceEqDiff, initEnv, V.bool, V.i64, resultsOf, AR.get, aExtract, aUn, Int.reduceEq, Int.reduceBEq, Int.reduceBNe, aBox, aLoad, aStore, aPart, aPlace, aArrAddr, aArrIdx, aIdx, aLenStr, aConv, aFold, aMinMax, aEqV, aNilCheck, fillV, aEqBool, aEqInt, aEqStr, Nat.reduceAdd, Nat.reduceLeDiff, Nat.reduceMul, Int.reduceLT, Int.reduceLE, Int.reduceToNat, Int.reduceGT, Int.reduceGE, Int.reduceNeg, Int.reduceAdd, Int.reduceSub, wrap64, chkAdd, effAdd, AOp.kind, chkAll, chkSee, Nat.reduceLT, zP.down, zQ.down]
  · rintro _ ⟨ρ, σ2, rfl, e0, ⟨cs, g, hc⟩, hkept⟩
    have hl := hc.len
    have l0 : (96 + 1 ≤ cs.length) = True := by simp only [eq_iff_iff, iff_true]; omega
    simp -implicitDefEqProofs (disch := first | exact nbf rfl | exact nbt rfl | (simp only [ne_eq, reduceCtorEq, not_false_eq_true]; done) | omega | (simp -implicitDefEqProofs only [St.n_push, St.n_put, St.n_bump, List.length_set] <;> omega) | fail) only [e0, g, l0, aCallv, aPtrEq, XOp.kind, AOp.run, AO.eval, put, reduceCtorEq, aInt, Nat.reduceEqDiff, initEnv, V.bool, V.i64, resultsOf, AR.get, aExtract, aUn, Int.reduceEq, Int.reduceBEq, Int.reduceBNe, aBox, aLoad, aStore, aPart, aPlace, aArrAddr, aArrIdx, aIdx, aLenStr, aConv, aFold, aMinMax, aEqV, aNilCheck, fillV, aEqBool, aEqInt, aEqStr, Nat.reduceAdd, Nat.reduceLeDiff, Nat.reduceMul, Int.reduceLT, Int.reduceLE, Int.reduceToNat, Int.reduceGT, Int.reduceGE, Int.reduceNeg, Int.reduceAdd, Int.reduceSub, wrap64, chkAdd, effAdd, AOp.kind, chkAll, chkSee, Nat.reduceLT, zP.down, zQ.down]
    refine ⟨⟨_, get_put_self g, ?_⟩, hkept.put (.inl rfl) (St.get_lt g) _⟩
    have := hc.power (-1)
    refine ⟨this.len, this.p, this.o, fun i hi => ?_⟩
    obtain ⟨v, hv⟩ := this.f i hi
    have e : (M.part keep torn 32).f i = (M.crash keep torn).f i := by unfold DM.part DM.crash; simp [hi]
    rw [← e]
    exact ⟨v, hv⟩
end Go.Proofs.Ytkdfahmlcnbadaa.dk
