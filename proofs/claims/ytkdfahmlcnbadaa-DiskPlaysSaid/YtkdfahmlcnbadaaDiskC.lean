/-
  Files: a crash.
-/
import Derived.Test.YtkdfahmlcnbadaaDiskB
namespace Go.Proofs.Ytkdfahmlcnbadaa.dk
open Go.Ab
set_option maxRecDepth 100000
set_option maxHeartbeats 8000000
set_option linter.unusedSimpArgs false
set_option linter.unusedVariables false

def kc (k : Int) : List V := [.sc (.int .i64 k)]
theorem DC.file {cs : List V} {M : DM} (h : DC cs M) {i : Nat} (hi : i < 32) (F : FM) (hF : F.loose = []) (hs : F.sure = F.seen) :
    DC (splice cs (i * 5) [.str F.seen.s, .str F.seen.s, .sc (.bool F.seen.there), .sc (.bool F.seen.there), .sc .nilS]) (M.upd i F) := by
  have hl := h.len
  have key : ∀ j, j < 5 → (splice cs (i * 5) [.str F.seen.s, .str F.seen.s, .sc (.bool F.seen.there), .sc (.bool F.seen.there), .sc .nilS])[i * 5 + j]? = ([.str F.seen.s, .str F.seen.s, .sc (.bool F.seen.there), .sc (.bool F.seen.there), .sc .nilS] : List V)[j]? := by
    intro j hj
    rw [splice_at (by simp; omega), if_pos (by simp; omega)]
    congr 1; omega
  refine h.upd hi (splice_len (by simp; omega)) (v := .sc .nilS) ⟨by rw [hF]; exact .nil, ?_, ?_, ?_, ?_, ?_⟩ fun j hj => ?_
  · rw [hs]; exact key 0 (by omega)
  · exact key 1 (by omega)
  · rw [hs]; exact key 2 (by omega)
  · exact key 3 (by omega)
  · exact key 4 (by omega)
  · rw [splice_at (by simp; omega), if_neg (by simp; omega)]

/-- Behind the crash of the first i files. -/
def DM.part (M : DM) (keep : List Int) (torn : Int) (i : Nat) : DM := { M with f := fun j => if j < i then (M.f j).crash ((keep[j]?).getD 0) torn else M.f j }
theorem part_succ (M : DM) (keep : List Int) (torn : Int) (i : Nat) : (M.part keep torn i).upd i ((M.f i).crash ((keep[i]?).getD 0) torn) = M.part keep torn (i + 1) := by
  unfold DM.part DM.upd
  congr 1
  funext j
  simp only [Int.toNat_natCast]
  by_cases h : j = i
  · subst h; simp
  · rw [if_neg h]
    by_cases h2 : j < i
    · rw [if_pos h2, if_pos (by omega)]
    · rw [if_neg h2, if_neg (by omega)]
theorem crash_sure (F : FM) (k t : Int) : (F.crash k t).loose = [] ∧ (F.crash k t).sure = (F.crash k t).seen := by
  unfold FM.crash FM.crashN
  dsimp only
  repeat' split
  all_goals exact ⟨rfl, rfl⟩

theorem crash_ok (k : Nat) (ys : YlF) (σ : St) (d : Nat) (M : DM) (kv : V) (keep : List Int) (torn : Int) (h : DR σ d M) (hkv : RV 1 kv (keep.map kc)) {B : Nat} (hm : M.Ok B) (hB : B ≤ 1000000) (hk : 2000000 ≤ k) :
    W (callY Tab.tb (k + 3) ys 15 [.ptr d 0, kv, .sc (.int .i64 torn)] σ) fun r => r.1 = .sc (.int .i64 0) ∧ DR r.2 d (M.crash keep torn) ∧ Kept (· = d) σ r.2 := by
  rw [s_call (af := Tab.b15) rfl (Nat.le_of_ble_eq_true rfl)]
  have hdoes := fun σ o cs x l v c g h hc hsl hl => does_ok k ys σ o 0 cs x l v c g h hc hsl hl
  generalize callY Tab.tb (k + 2) = cy at hdoes ⊢
  have klen := hkv.len
  have ksize := hkv.size
  rw [List.length_map] at klen
  simp -implicitDefEqProofs (disch := first | exact nbf rfl | exact nbt rfl | (simp only [ne_eq, reduceCtorEq, not_false_eq_true]; done) | omega | (simp -implicitDefEqProofs only [St.n_push, St.n_put, St.n_bump, List.length_set] <;> omega) | fail) only [Tab.b15, pnil, aCallv, aPtrEq, XOp.kind, AOp.run, AO.eval, put, reduceCtorEq, aInt, Nat.reduceEqDiff, initEnv, V.bool, V.i64, resultsOf, AR.get, aExtract, aUn, Int.reduceEq, Int.reduceBEq, Int.reduceBNe, aBox, aLoad, aStore, aPart, aPlace, aArrAddr, aArrIdx, aIdx, aLenStr, aConv, aFold, aMinMax, aNilCheck, fillV, aEqBool, aEqInt, aEqStr, Nat.reduceAdd, Nat.reduceLeDiff, Nat.reduceMul, Int.reduceLT, Int.reduceLE, Int.reduceToNat, Int.reduceGT, Int.reduceGE, Int.reduceNeg, Int.reduceAdd, Int.reduceSub, wrap64, chkAdd, effAdd, AOp.kind, chkAll, chkSee, Nat.reduceLT, zP.down, zQ.down]
  repeat (first | refine w_fin ?_ | refine w_seq ?_ | refine w_block ?_ | refine w_reg ?_ | refine w_op ?_ | refine w_dop ?_)
  refine W.mono (Q := fun r => ∃ (ρ : Env) (σ' : St), r = (.exit 0, ρ, σ') ∧ ρ 0 = .ptr d 0 ∧ DR σ' d (M.part keep torn 32) ∧ Kept (· = d) σ σ') ?_ ?_
  · refine w_loop (fun m ρ σ' => ∃ i : Nat, m = 32 - i ∧ i ≤ 32 ∧ ρ 0 = .ptr d 0 ∧ ρ 1 = kv ∧ ρ 2 = .sc (.int .i64 torn) ∧ ρ 15 = .sc (.int .i64 i) ∧ DR σ' d (M.part keep torn i) ∧ Kept (· = d) σ σ') 32 (by omega) ?_ ?_
    · refine ⟨0, rfl, by omega, ?_, ?_, ?_, ?_, ?_, Kept.refl _ _⟩
      · simp -implicitDefEqProofs (disch := first | exact nbf rfl | exact nbt rfl | (simp only [ne_eq, reduceCtorEq, not_false_eq_true]; done) | omega | (simp -implicitDefEqProofs only [St.n_push, St.n_put, St.n_bump, List.length_set] <;> omega) | fail) only [aCallv, aPtrEq, XOp.kind, AOp.run, AO.eval, put, reduceCtorEq, aInt, Nat.reduceEqDiff, initEnv, V.bool, V.i64, resultsOf, AR.get, aExtract, aUn, Int.reduceEq, Int.reduceBEq, Int.reduceBNe, aBox, aLoad, aStore, aPart, aPlace, aArrAddr, aArrIdx, aIdx, aLenStr, aConv, aFold, aMinMax, aEqV, aNilCheck, fillV, aEqBool, aEqInt, aEqStr, Nat.reduceAdd, Nat.reduceLeDiff, Nat.reduceMul, Int.reduceLT, Int.reduceLE, Int.reduceToNat, Int.reduceGT, Int.reduceGE, Int.reduceNeg, Int.reduceAdd, Int.reduceSub, wrap64, chkAdd, effAdd, AOp.kind, chkAll, chkSee, Nat.reduceLT, zP.down, zQ.down]
      · simp -implicitDefEqProofs (disch := first | exact nbf rfl | exact nbt rfl | (simp only [ne_eq, reduceCtorEq, not_false_eq_true]; done) | omega | (simp -implicitDefEqProofs only [St.n_push, St.n_put, St.n_bump, List.length_set] <;> omega) | fail) only [aCallv, aPtrEq, XOp.kind, AOp.run, AO.eval, put, reduceCtorEq, aInt, Nat.reduceEqDiff, initEnv, V.bool, V.i64, resultsOf, AR.get, aExtract, aUn, Int.reduceEq, Int.reduceBEq, Int.reduceBNe, aBox, aLoad, aStore, aPart, aPlace, aArrAddr, aArrIdx, aIdx, aLenStr, aConv, aFold, aMinMax, aEqV, aNilCheck, fillV, aEqBool, aEqInt, aEqStr, Nat.reduceAdd, Nat.reduceLeDiff, Nat.reduceMul, Int.reduceLT, Int.reduceLE, Int.reduceToNat, Int.reduceGT, Int.reduceGE, Int.reduceNeg, Int.reduceAdd, Int.reduceSub, wrap64, chkAdd, effAdd, AOp.kind, chkAll, chkSee, Nat.reduceLT, zP.down, zQ.down]
      · simp -implicitDefEqProofs (disch := first | exact nbf rfl | exact nbt rfl | (simp only [ne_eq, reduceCtorEq, not_false_eq_true]; done) | omega | (simp -implicitDefEqProofs only [St.n_push, St.n_put, St.n_bump, List.length_set] <;> omega) | fail) only [aCallv, aPtrEq, XOp.kind, AOp.run, AO.eval, put, reduceCtorEq, aInt, Nat.reduceEqDiff, initEnv, V.bool, V.i64, resultsOf, AR.get, aExtract, aUn, Int.reduceEq, Int.reduceBEq, Int.reduceBNe, aBox, aLoad, aStore, aPart, aPlace, aArrAddr, aArrIdx, aIdx, aLenStr, aConv, aFold, aMinMax, aEqV, aNilCheck, fillV, aEqBool, aEqInt, aEqStr, Nat.reduceAdd, Nat.reduceLeDiff, Nat.reduceMul, Int.reduceLT, Int.reduceLE, Int.reduceToNat, Int.reduceGT, Int.reduceGE, Int.reduceNeg, Int.reduceAdd, Int.reduceSub, wrap64, chkAdd, effAdd, AOp.kind, chkAll, chkSee, Nat.reduceLT, zP.down, zQ.down]
      · simp -implicitDefEqProofs (disch := first | exact nbf rfl | exact nbt rfl | (simp only [ne_eq, reduceCtorEq, not_false_eq_true]; done) | omega | (simp -implicitDefEqProofs only [St.n_push, St.n_put, St.n_bump, List.length_set] <;> omega) | fail) only [aCallv, aPtrEq, XOp.kind, AOp.run, AO.eval, put, reduceCtorEq, aInt, Nat.reduceEqDiff, initEnv, V.bool, V.i64, resultsOf, AR.get, aExtract, aUn, Int.reduceEq, Int.reduceBEq, Int.reduceBNe, aBox, aLoad, aStore, aPart, aPlace, aArrAddr, aArrIdx, aIdx, aLenStr, aConv, aFold, aMinMax, aEqV, aNilCheck, fillV, aEqBool, aEqInt, aEqStr, Nat.reduceAdd, Nat.reduceLeDiff, Nat.reduceMul, Int.reduceLT, Int.reduceLE, Int.reduceToNat, Int.reduceGT, Int.reduceGE, Int.reduceNeg, Int.reduceAdd, Int.reduceSub, wrap64, chkAdd, effAdd, AOp.kind, chkAll, chkSee, Nat.reduceLT, zP.down, zQ.down]
      · have : M.part keep torn 0 = M := by unfold DM.part; simp
        rw [this]; exact h
    · rintro m ρ σ' ⟨i, hm', hi, e0, e1, e2, e15, hd, hkept⟩
      by_cases hl : i < 32
      · have c1 : decide ((i : Int) < 32) = true := by simp; omega
        obtain ⟨cs, g, hc⟩ := hd
        obtain ⟨v, hv⟩ := hc.f i hl
        have hfi : (M.part keep torn i).f i = M.f i := by unfold DM.part; simp
        rw [hfi] at hv
        have hfm := hm.f i hl
        have ha := arr_ok (o := d) (off := 0) (len := 32) (sz := 5) hl
        have hlen := hc.len
        have l1 : (i * 5 + 5 ≤ cs.length) = True := by simp only [eq_iff_iff, iff_true]; omega
        have t1 := hv.take
        have hcell := hv.rv.cell
        have vlen := hv.rv.len
        have vsize := hv.rv.size
        rw [List.length_map] at vlen
        have hdl := St.get_lt g
        -- how many are kept
        have hn : ∃ n : Nat, (min (max ((keep[i]?).getD 0) 0) ((M.f i).loose.length : Int)) = n ∧ n ≤ (M.f i).loose.length := ⟨(min (max ((keep[i]?).getD 0) 0) ((M.f i).loose.length : Int)).toNat, by omega, by omega⟩
        obtain ⟨n, hn, hnl⟩ := hn
        have hcr : (M.f i).crash ((keep[i]?).getD 0) torn = (M.f i).crashN n torn := by unfold FM.crash; rw [hn, Int.toNat_natCast]
        obtain ⟨w, hw1, hw2⟩ := hv.rv.take (i := n) (by simpa using hnl)
        have wlen := hw2.len
        have wsize := hw2.size
        have hwl : (List.take n ((M.f i).loose.map chc)).length = n := by simp; omega
        rw [hwl] at wlen
        -- the file's copy
        have gy : ((σ'.bump.push (.cells [.str [], .str [], .sc (.bool false), .sc (.bool false), .sc .nilS])).put σ'.bump.n (some (.cells [.str [], .str (M.f i).sure.s, .sc (.bool false), .sc (.bool (M.f i).sure.there), .sc .nilS]))).get σ'.bump.n = some (.cells [.str [], .str (M.f i).sure.s, .sc (.bool false), .sc (.bool (M.f i).sure.there), .sc .nilS]) := get_put_self get_push_self
        have gd : ((σ'.bump.push (.cells [.str [], .str [], .sc (.bool false), .sc (.bool false), .sc .nilS])).put σ'.bump.n (some (.cells [.str [], .str (M.f i).sure.s, .sc (.bool false), .sc (.bool (M.f i).sure.there), .sc .nilS]))).get d = some (.cells cs) := by
          rw [get_put_ne (by simp; omega) (by simp), get_push_ne (by simp; omega), St.get_bump]; exact g
        have kb : Kept (· = d) σ ((σ'.bump.push (.cells [.str [], .str [], .sc (.bool false), .sc (.bool false), .sc .nilS])).put σ'.bump.n (some (.cells [.str [], .str (M.f i).sure.s, .sc (.bool false), .sc (.bool (M.f i).sure.there), .sc .nilS]))) := ((hkept.bump.push _).put (.inr (by have := hkept.n; simp; omega)) (by simp) _)
        generalize hσa : σ'.bump = σa at gy gd kb
        have hna : σa.n = σ'.n + 1 := by subst hσa; rfl
        have hold : ∀ q x, σ.get q = some x → q < σa.n := fun q x hx => by have := St.get_lt hx; have := hkept.n; omega
        have hlt : d < σa.n := by omega
        generalize hσb : (σa.push (.cells [.str [], .str [], .sc (.bool false), .sc (.bool false), .sc .nilS])).put σa.n (some (.cells [.str [], .str (M.f i).sure.s, .sc (.bool false), .sc (.bool (M.f i).sure.there), .sc .nilS])) = σb at gy gd kb
        by_cases hki : i < keep.length
        · have c2 : decide ((i : Int) < (keep.length : Int)) = true := by simpa using hki
          obtain ⟨k1, _, _⟩ := hkv.at (i := i) (by simpa using hki)
          have k2 := hkv.cellAt (i := i) (j := 0) (by simpa using hki) (by omega)
          simp only [List.getElem_map, kc, List.getElem?_cons_zero, Nat.mul_one, Nat.add_zero] at k2 k1
          have hkg : (keep[i]?).getD 0 = keep[i] := by rw [List.getElem?_eq_getElem hki]; rfl
          have m1 := max64 keep[i] 0
          have m2 := min64 (max keep[i] 0) ((M.f i).loose.length : Int)
          rw [← hkg, hn] at m2
          rw [← hkg] at m1 k2
          simp -implicitDefEqProofs (disch := first | exact nbf rfl | exact nbt rfl | (simp only [ne_eq, reduceCtorEq, not_false_eq_true]; done) | omega | (simp -implicitDefEqProofs only [St.n_push, St.n_put, St.n_bump, List.length_set] <;> omega) | fail) only [c1, c2, e0, e1, e2, e15, klen, ksize, ha, g, l1, t1, fcell, hcell.1, hcell.2, vlen, vsize, k1, k2, m1, m2, hσa, hσb, hw1, wlen, aCallv, aPtrEq, XOp.kind, AOp.run, AO.eval, put, reduceCtorEq, aInt, Nat.reduceEqDiff, initEnv, V.bool, V.i64, resultsOf, AR.get, aExtract, aUn, Int.reduceEq, Int.reduceBEq, Int.reduceBNe, aBox, aLoad, aStore, aPart, aPlace, aArrIdx, aIdx, aLenStr, aConv, aMinMax, aEqV, aNilCheck, fillV, aEqBool, aEqInt, aEqStr, Nat.reduceAdd, Nat.reduceLeDiff, Nat.reduceMul, Int.reduceLT, Int.reduceLE, Int.reduceToNat, Int.reduceGT, Int.reduceGE, Int.reduceNeg, Int.reduceAdd, Int.reduceSub, wrap64, chkAdd, effAdd, AOp.kind, chkAll, chkSee, Nat.reduceLT, zP.down, zQ.down]
          repeat (first | refine w_fin ?_ | refine w_seq ?_ | refine w_block ?_ | refine w_reg ?_ | refine w_op ?_ | refine w_dop ?_)
          refine W.mono (Q := fun r => ∃ (ρ3 : Env) (σ3 : St) (zs : List V) (u : V), r = ((.exit 2 : Ex), ρ3, σ3) ∧ ρ3 0 = .ptr d 0 ∧ ρ3 1 = kv ∧ ρ3 2 = .sc (.int .i64 torn) ∧ ρ3 7 = .sc (.int .i64 i) ∧ ρ3 8 = .agg (fcell (M.f i) v) ∧ ρ3 9 = .sc (.int .i64 n) ∧ ρ3 10 = .ptr σa.n 0 ∧ ρ3 15 = .sc (.int .i64 i) ∧ σ3.get d = some (.cells cs) ∧ σ3.get σa.n = some (.cells zs) ∧ zs.length = 5 ∧ FN zs 0 (seenOf (M.f i).sure ((M.f i).loose.take n)) ((M.f i).loose.take n) u ∧ Kept (· = d) σ σ3) ?_ ?_
          · refine w_loop (fun m ρ3 σ3 => ∃ (j : Nat) (zs : List V) (u : V), m = n - j ∧ j ≤ n ∧ ρ3 0 = .ptr d 0 ∧ ρ3 1 = kv ∧ ρ3 2 = .sc (.int .i64 torn) ∧ ρ3 7 = .sc (.int .i64 i) ∧ ρ3 8 = .agg (fcell (M.f i) v) ∧ ρ3 9 = .sc (.int .i64 n) ∧ ρ3 10 = .ptr σa.n 0 ∧ ρ3 15 = .sc (.int .i64 i) ∧ ρ3 45 = w ∧ ρ3 46 = .sc (.int .i64 n) ∧ ρ3 47 = .sc (.int .i64 j) ∧ σ3.get d = some (.cells cs) ∧ σ3.get σa.n = some (.cells zs) ∧ zs.length = 5 ∧ FN zs 0 (seenOf (M.f i).sure ((M.f i).loose.take j)) ((M.f i).loose.take j) u ∧ Kept (· = d) σ σ3) n (by omega) ?_ ?_
            · refine ⟨0, _, .sc .nilS, rfl, Nat.zero_le _, ?_, ?_, ?_, ?_, ?_, ?_, ?_, ?_, ?_, ?_, ?_, gd, gy, rfl, ⟨by simp, .nil, rfl, rfl, rfl⟩, kb⟩
              all_goals first | rfl | (simp -implicitDefEqProofs (disch := first | exact nbf rfl | exact nbt rfl | (simp only [ne_eq, reduceCtorEq, not_false_eq_true]; done) | omega | (simp -implicitDefEqProofs only [St.n_push, St.n_put, St.n_bump, List.length_set] <;> omega) | fail) only [e0, e1, e2, e15, aCallv, aPtrEq, XOp.kind, AOp.run, AO.eval, put, reduceCtorEq, aInt, Nat.reduceEqDiff, initEnv, V.bool, V.i64, resultsOf, AR.get, aExtract, aUn, Int.reduceEq, Int.reduceBEq, Int.reduceBNe, aBox, aLoad, aStore, aPart, aPlace, aArrAddr, aArrIdx, aIdx, aLenStr, aConv, aFold, aMinMax, aEqV, aNilCheck, fillV, aEqBool, aEqInt, aEqStr, Nat.reduceAdd, Nat.reduceLeDiff, Nat.reduceMul, Int.reduceLT, Int.reduceLE, Int.reduceToNat, Int.reduceGT, Int.reduceGE, Int.reduceNeg, Int.reduceAdd, Int.reduceSub, wrap64, chkAdd, effAdd, AOp.kind, chkAll, chkSee, Nat.reduceLT, zP.down, zQ.down]; done) | (simp -implicitDefEqProofs (disch := first | exact nbf rfl | exact nbt rfl | (simp only [ne_eq, reduceCtorEq, not_false_eq_true]; done) | omega | (simp -implicitDefEqProofs only [St.n_push, St.n_put, St.n_bump, List.length_set] <;> omega) | fail) only [e0, e1, e2, e15, fcell, aCallv, aPtrEq, XOp.kind, AOp.run, AO.eval, put, reduceCtorEq, aInt, Nat.reduceEqDiff, initEnv, V.bool, V.i64, resultsOf, AR.get, aExtract, aUn, Int.reduceEq, Int.reduceBEq, Int.reduceBNe, aBox, aLoad, aStore, aPart, aPlace, aArrAddr, aArrIdx, aIdx, aLenStr, aConv, aFold, aMinMax, aEqV, aNilCheck, fillV, aEqBool, aEqInt, aEqStr, Nat.reduceAdd, Nat.reduceLeDiff, Nat.reduceMul, Int.reduceLT, Int.reduceLE, Int.reduceToNat, Int.reduceGT, Int.reduceGE, Int.reduceNeg, Int.reduceAdd, Int.reduceSub, wrap64, chkAdd, effAdd, AOp.kind, chkAll, chkSee, Nat.reduceLT, zP.down, zQ.down]; done) | (simp -implicitDefEqProofs (disch := first | exact nbf rfl | exact nbt rfl | (simp only [ne_eq, reduceCtorEq, not_false_eq_true]; done) | omega | (simp -implicitDefEqProofs only [St.n_push, St.n_put, St.n_bump, List.length_set] <;> omega) | fail) only [hn0, aCallv, aPtrEq, XOp.kind, AOp.run, AO.eval, put, reduceCtorEq, aInt, Nat.reduceEqDiff, initEnv, V.bool, V.i64, resultsOf, AR.get, aExtract, aUn, Int.reduceEq, Int.reduceBEq, Int.reduceBNe, aBox, aLoad, aStore, aPart, aPlace, aArrAddr, aArrIdx, aIdx, aLenStr, aConv, aFold, aMinMax, aEqV, aNilCheck, fillV, aEqBool, aEqInt, aEqStr, Nat.reduceAdd, Nat.reduceLeDiff, Nat.reduceMul, Int.reduceLT, Int.reduceLE, Int.reduceToNat, Int.reduceGT, Int.reduceGE, Int.reduceNeg, Int.reduceAdd, Int.reduceSub, wrap64, chkAdd, effAdd, AOp.kind, chkAll, chkSee, Nat.reduceLT, zP.down, zQ.down]; done) | (simp -implicitDefEqProofs (disch := first | exact nbf rfl | exact nbt rfl | (simp only [ne_eq, reduceCtorEq, not_false_eq_true]; done) | omega | (simp -implicitDefEqProofs only [St.n_push, St.n_put, St.n_bump, List.length_set] <;> omega) | fail) only [hn0, aCallv, aPtrEq, XOp.kind, AOp.run, AO.eval, put, reduceCtorEq, aInt, Nat.reduceEqDiff, initEnv, V.bool, V.i64, resultsOf, AR.get, aExtract, aUn, Int.reduceEq, Int.reduceBEq, Int.reduceBNe, aBox, aLoad, aStore, aPart, aPlace, aArrAddr, aArrIdx, aIdx, aLenStr, aConv, aFold, aMinMax, aEqV, aNilCheck, fillV, aEqBool, aEqInt, aEqStr, Nat.reduceAdd, Nat.reduceLeDiff, Nat.reduceMul, Int.reduceLT, Int.reduceLE, Int.reduceToNat, Int.reduceGT, Int.reduceGE, Int.reduceNeg, Int.reduceAdd, Int.reduceSub, wrap64, chkAdd, effAdd, AOp.kind, chkAll, chkSee, Nat.reduceLT, zP.down, zQ.down]; rfl)
            · rintro m3 ρ3 σ3 ⟨j, zs, u, hm3, hj, p0, p1, p2, p7, p8, p9, p10, p15, p45, p46, p47, gd3, gz, hz, hfn, hk3⟩
              by_cases hjn : j < n
              · have c3 : decide ((j : Int) < (n : Int)) = true := by simpa using hjn
                have hj2 : j < (M.f i).loose.length := by omega
                obtain ⟨a1, a2, a3⟩ := hw2.at (i := j) (by simp; omega)
                have a4 : (List.take n ((M.f i).loose.map chc))[j]'(by simp; omega) = chc (M.f i).loose[j] := by simp
                rw [a4] at a3
                have hd2 := hdoes σ3.bump σa.n zs _ _ u (M.f i).loose[j] (by rw [St.get_bump]; exact gz) hfn (okl_at hj2 hfm.1.ok) (seen_len (okl_take j hfm.1.ok) hfm.1.len) (by simp; omega)
                simp only [chc] at a3 hd2
                simp -implicitDefEqProofs (disch := first | exact nbf rfl | exact nbt rfl | (simp only [ne_eq, reduceCtorEq, not_false_eq_true]; done) | omega | (simp -implicitDefEqProofs only [St.n_push, St.n_put, St.n_bump, List.length_set] <;> omega) | fail) only [c3, p0, p1, p2, p7, p8, p9, p10, p15, p45, p46, p47, a1, a2, a3, wsize, aCallv, aPtrEq, XOp.kind, AOp.run, AO.eval, put, reduceCtorEq, aInt, Nat.reduceEqDiff, initEnv, V.bool, V.i64, resultsOf, AR.get, aExtract, aUn, Int.reduceEq, Int.reduceBEq, Int.reduceBNe, aBox, aLoad, aStore, aPart, aPlace, aArrAddr, aArrIdx, aIdx, aLenStr, aConv, aFold, aMinMax, aEqV, aNilCheck, fillV, aEqBool, aEqInt, aEqStr, Nat.reduceAdd, Nat.reduceLeDiff, Nat.reduceMul, Int.reduceLT, Int.reduceLE, Int.reduceToNat, Int.reduceGT, Int.reduceGE, Int.reduceNeg, Int.reduceAdd, Int.reduceSub, wrap64, chkAdd, effAdd, AOp.kind, chkAll, chkSee, Nat.reduceLT, zP.down, zQ.down]
                repeat (first | refine w_fin ?_ | refine w_seq ?_ | refine w_block ?_ | refine w_reg ?_ | refine w_op ?_ | refine w_dop ?_)
                refine hd2.mono ?_
                rintro ⟨_, σ4⟩ ⟨rfl, zs', u', g4, z4, f4, _, k4⟩
                dsimp only at g4 k4
                have hne : d ≠ σa.n := by omega
                have hsn : seenOf (M.f i).sure ((M.f i).loose.take (j + 1)) = done (seenOf (M.f i).sure ((M.f i).loose.take j)) (M.f i).loose[j] := by rw [take_succ' hj2, seenOf_append]
                have w3 : IntKind.i64.wrap ((j : Int) + 1) = (j : Int) + 1 := wrap64 (by omega) (by omega)
                simp -implicitDefEqProofs (disch := first | exact nbf rfl | exact nbt rfl | (simp only [ne_eq, reduceCtorEq, not_false_eq_true]; done) | omega | (simp -implicitDefEqProofs only [St.n_push, St.n_put, St.n_bump, List.length_set] <;> omega) | fail) only [p47, w3, aCallv, aPtrEq, XOp.kind, AOp.run, AO.eval, put, reduceCtorEq, aInt, Nat.reduceEqDiff, initEnv, V.bool, V.i64, resultsOf, AR.get, aExtract, aUn, Int.reduceEq, Int.reduceBEq, Int.reduceBNe, aBox, aLoad, aStore, aPart, aPlace, aArrAddr, aArrIdx, aIdx, aLenStr, aConv, aFold, aMinMax, aEqV, aNilCheck, fillV, aEqBool, aEqInt, aEqStr, Nat.reduceAdd, Nat.reduceLeDiff, Nat.reduceMul, Int.reduceLT, Int.reduceLE, Int.reduceToNat, Int.reduceGT, Int.reduceGE, Int.reduceNeg, Int.reduceAdd, Int.reduceSub, wrap64, chkAdd, effAdd, AOp.kind, chkAll, chkSee, Nat.reduceLT, zP.down, zQ.down]
                refine ⟨n - (j + 1), by omega, j + 1, zs', u', rfl, hjn, ?_, ?_, ?_, ?_, ?_, ?_, ?_, ?_, ?_, ?_, ?_, k4.get _ _ hne (by rw [St.get_bump]; exact gd3), g4, z4.trans hz, ?_, ?_⟩
                all_goals first
                  | assumption
                  | (simp; done)
                  | (rw [hsn, take_succ' hj2]; exact f4)
                  | (refine ⟨Nat.le_trans hk3.n (Nat.le_trans (Nat.le_succ _) k4.n), fun q x hq hx => ?_⟩
                     have h1 := hk3.get q x hq hx
                     have h2 := hold q x hx
                     exact k4.get q x (by omega) (by rw [St.get_bump]; exact h1))
              · have c3 : decide ((j : Int) < (n : Int)) = false := by simpa using hjn
                have hjn : j = n := by omega
                subst hjn
                simp -implicitDefEqProofs (disch := first | exact nbf rfl | exact nbt rfl | (simp only [ne_eq, reduceCtorEq, not_false_eq_true]; done) | omega | (simp -implicitDefEqProofs only [St.n_push, St.n_put, St.n_bump, List.length_set] <;> omega) | fail) only [c3, p46, p47, aCallv, aPtrEq, XOp.kind, AOp.run, AO.eval, put, reduceCtorEq, aInt, Nat.reduceEqDiff, initEnv, V.bool, V.i64, resultsOf, AR.get, aExtract, aUn, Int.reduceEq, Int.reduceBEq, Int.reduceBNe, aBox, aLoad, aStore, aPart, aPlace, aArrAddr, aArrIdx, aIdx, aLenStr, aConv, aFold, aMinMax, aEqV, aNilCheck, fillV, aEqBool, aEqInt, aEqStr, Nat.reduceAdd, Nat.reduceLeDiff, Nat.reduceMul, Int.reduceLT, Int.reduceLE, Int.reduceToNat, Int.reduceGT, Int.reduceGE, Int.reduceNeg, Int.reduceAdd, Int.reduceSub, wrap64, chkAdd, effAdd, AOp.kind, chkAll, chkSee, Nat.reduceLT, zP.down, zQ.down]
                refine ⟨_, _, zs, u, rfl, ?_, ?_, ?_, ?_, ?_, ?_, ?_, ?_, gd3, gz, hz, hfn, hk3⟩
                all_goals (simp -implicitDefEqProofs (disch := first | exact nbf rfl | exact nbt rfl | (simp only [ne_eq, reduceCtorEq, not_false_eq_true]; done) | omega | (simp -implicitDefEqProofs only [St.n_push, St.n_put, St.n_bump, List.length_set] <;> omega) | fail) only [p0, p1, p2, p7, p8, p9, p10, p15, aCallv, aPtrEq, XOp.kind, AOp.run, AO.eval, put, reduceCtorEq, aInt, Nat.reduceEqDiff, initEnv, V.bool, V.i64, resultsOf, AR.get, aExtract, aUn, Int.reduceEq, Int.reduceBEq, Int.reduceBNe, aBox, aLoad, aStore, aPart, aPlace, aArrAddr, aArrIdx, aIdx, aLenStr, aConv, aFold, aMinMax, aEqV, aNilCheck, fillV, aEqBool, aEqInt, aEqStr, Nat.reduceAdd, Nat.reduceLeDiff, Nat.reduceMul, Int.reduceLT, Int.reduceLE, Int.reduceToNat, Int.reduceGT, Int.reduceGE, Int.reduceNeg, Int.reduceAdd, Int.reduceSub, wrap64, chkAdd, effAdd, AOp.kind, chkAll, chkSee, Nat.reduceLT, zP.down, zQ.down]; done)
          · rintro _ ⟨ρ3, σ3, zs, u, rfl, p0, p1, p2, p7, p8, p9, p10, p15, gd3, gz, hz, hfn, hk3⟩
            have hne : d ≠ σa.n := by omega
            -- what is written in the end
            have hend : ∀ (ρ4 : Env) (σ4 : St) (zs4 : List V), zs4[1]? = some (.str ((M.f i).crash ((keep[i]?).getD 0) torn).seen.s) → zs4[3]? = some (.sc (.bool ((M.f i).crash ((keep[i]?).getD 0) torn).seen.there)) → σ4.get d = some (.cells cs) → σ4.get σa.n = some (.cells zs4) → Kept (· = d) σ σ4 →
                DR (σ4.put d (some (.cells (splice cs (i * 5) [.str ((M.f i).crash ((keep[i]?).getD 0) torn).seen.s, .str ((M.f i).crash ((keep[i]?).getD 0) torn).seen.s, .sc (.bool ((M.f i).crash ((keep[i]?).getD 0) torn).seen.there), .sc (.bool ((M.f i).crash ((keep[i]?).getD 0) torn).seen.there), .sc .nilS])))) d (M.part keep torn (i + 1)) ∧ Kept (· = d) σ (σ4.put d (some (.cells (splice cs (i * 5) [.str ((M.f i).crash ((keep[i]?).getD 0) torn).seen.s, .str ((M.f i).crash ((keep[i]?).getD 0) torn).seen.s, .sc (.bool ((M.f i).crash ((keep[i]?).getD 0) torn).seen.there), .sc (.bool ((M.f i).crash ((keep[i]?).getD 0) torn).seen.there), .sc .nilS])))) := by
              intro ρ4 σ4 zs4 _ _ g1 _ k1
              obtain ⟨q1, q2⟩ := crash_sure (M.f i) ((keep[i]?).getD 0) torn
              refine ⟨⟨_, get_put_self g1, ?_⟩, k1.put (.inl rfl) (St.get_lt g1) _⟩
              rw [← part_succ]
              exact hc.file hl _ q1 q2
            have w4 : IntKind.i64.wrap ((i : Int) + 1) = (i : Int) + 1 := wrap64 (by omega) (by omega)
            have z1 := hfn.c1
            have z3 := hfn.c3
            have hnone : ∀ x, ((M.f i).crash ((keep[i]?).getD 0) torn) = ⟨x, []⟩ → ((M.f i).crash ((keep[i]?).getD 0) torn).seen = x := fun x hx => by rw [hx]; rfl
            have stop : (M.f i).crash ((keep[i]?).getD 0) torn = ⟨seenOf (M.f i).sure ((M.f i).loose.take n), []⟩ → ∀ Q : V × St → Prop, True := fun _ _ => trivial
            by_cases q1 : n < (M.f i).loose.length
            · have c3 : decide ((n : Int) < ((M.f i).loose.length : Int)) = true := by simpa using q1
              obtain ⟨a1, a2, a3⟩ := hv.rv.at (i := n) (by simpa using q1)
              have b0 := hv.rv.cellAt (i := n) (j := 0) (by simpa using q1) (by omega)
              have b1 := hv.rv.cellAt (i := n) (j := 1) (by simpa using q1) (by omega)
              simp only [List.getElem_map, chc, List.getElem?_cons_zero, List.getElem?_cons_succ, Nat.add_zero] at b0 b1
              have hcr2 := hcr
              unfold FM.crashN at hcr2
              rw [List.getElem?_eq_getElem q1] at hcr2
              dsimp only at hcr2
              have hokn := okl_at q1 hfm.1.ok
              by_cases q2 : (M.f i).loose[n].k = 1
              · have c4 := beq_iff_eq.2 q2
                by_cases q3 : 0 < torn
                · have c5 : decide (torn > 0) = true := by simpa using q3
                  by_cases q4 : 0 < (M.f i).loose[n].s.length
                  · have c6 : decide (((M.f i).loose[n].s.length : Int) > 0) = true := by simpa using q4
                    rw [if_pos ⟨q2, q4, q3⟩] at hcr2
                    have hsn := hnone _ hcr2
                    have hlen1 : (M.f i).loose[n].s.length ≤ 1048576 := by
                      rcases hokn with ⟨_, h⟩ | ⟨h, _⟩ | h
                      · omega
                      · omega
                      · omega
                    have w5 : IntKind.i64.wrap (((M.f i).loose[n].s.length : Int) - 1) = ((M.f i).loose[n].s.length : Int) - 1 := wrap64 (by omega) (by omega)
                    have hmin := min64 torn (((M.f i).loose[n].s.length : Int) - 1)
                    have sl : aSlice (.str (M.f i).loose[n].s) none (some (.sc (.int .i64 (min torn (((M.f i).loose[n].s.length : Int) - 1))))) none = some (.str ((M.f i).loose[n].s.take (min torn (((M.f i).loose[n].s.length : Int) - 1)).toNat)) := by
                      have h1 : (0 : Int) ≤ min torn (((M.f i).loose[n].s.length : Int) - 1) := by omega
                      have h2 : min torn (((M.f i).loose[n].s.length : Int) - 1) ≤ ((M.f i).loose[n].s.length : Int) := by omega
                      simp [aSlice, aBounds, aBnd, h1, h2]
                    have hd2 := hdoes σ3 σa.n zs _ _ u ⟨1, (M.f i).loose[n].s.take (min torn (((M.f i).loose[n].s.length : Int) - 1)).toNat, 0⟩ gz hfn (.inl ⟨rfl, by
                      rcases hokn with ⟨_, h⟩ | ⟨h, _⟩ | h
                      · dsimp only; rw [List.length_take]; omega
                      · omega
                      · omega⟩) (seen_len (okl_take n hfm.1.ok) hfm.1.len) (by simp; omega)
                    simp only [chc] at hd2
                    simp -implicitDefEqProofs (disch := first | exact nbf rfl | exact nbt rfl | (simp only [ne_eq, reduceCtorEq, not_false_eq_true]; done) | omega | (simp -implicitDefEqProofs only [St.n_push, St.n_put, St.n_bump, List.length_set] <;> omega) | fail) only [p0, p1, p2, p7, p8, p9, p10, p15, fcell, c3, c4, c5, c6, a1, b0, b1, vlen, vsize, w5, hmin, sl, aCallv, aPtrEq, XOp.kind, AOp.run, AO.eval, put, reduceCtorEq, aInt, Nat.reduceEqDiff, initEnv, V.bool, V.i64, resultsOf, AR.get, aExtract, aUn, Int.reduceEq, Int.reduceBEq, Int.reduceBNe, aBox, aLoad, aStore, aPart, aPlace, aArrAddr, aArrIdx, aIdx, aLenStr, aConv, aMinMax, aEqV, aNilCheck, fillV, aEqBool, aEqInt, aEqStr, Nat.reduceAdd, Nat.reduceLeDiff, Nat.reduceMul, Int.reduceLT, Int.reduceLE, Int.reduceToNat, Int.reduceGT, Int.reduceGE, Int.reduceNeg, Int.reduceAdd, Int.reduceSub, wrap64, chkAdd, effAdd, AOp.kind, chkAll, chkSee, Nat.reduceLT, zP.down, zQ.down]
                    repeat (first | refine w_fin ?_ | refine w_seq ?_ | refine w_block ?_ | refine w_reg ?_ | refine w_op ?_ | refine w_dop ?_)
                    refine hd2.mono ?_
                    rintro ⟨_, σ4⟩ ⟨rfl, zs', u', g4, z4, f4, _, k4⟩
                    dsimp only at g4 k4
                    have f1 := f4.c1
                    have f3 := f4.c3
                    rw [← hsn] at f1 f3
                    have gd4 := k4.get _ _ hne gd3
                    have k5 : Kept (· = d) σ σ4 := ⟨Nat.le_trans hk3.n k4.n, fun q x hq hx => by
                      have h1 := hk3.get q x hq hx
                      have h2 := hold q x hx
                      exact k4.get q x (by omega) h1⟩
                    obtain ⟨r1, r2⟩ := hend ρ3 σ4 zs' f1 f3 gd4 g4 k5
                    simp -implicitDefEqProofs (disch := first | exact nbf rfl | exact nbt rfl | (simp only [ne_eq, reduceCtorEq, not_false_eq_true]; done) | omega | (simp -implicitDefEqProofs only [St.n_push, St.n_put, St.n_bump, List.length_set] <;> omega) | fail) only [p0, p1, p2, p7, p8, p9, p10, p15, fcell, g4, f1, f3, gd4, ha, l1, w4, aCallv, aPtrEq, XOp.kind, AOp.run, AO.eval, put, reduceCtorEq, aInt, Nat.reduceEqDiff, initEnv, V.bool, V.i64, resultsOf, AR.get, aExtract, aUn, Int.reduceEq, Int.reduceBEq, Int.reduceBNe, aBox, aLoad, aStore, aPart, aPlace, aArrIdx, aIdx, aLenStr, aConv, aFold, aMinMax, aEqV, aNilCheck, fillV, aEqBool, aEqInt, aEqStr, Nat.reduceAdd, Nat.reduceLeDiff, Nat.reduceMul, Int.reduceLT, Int.reduceLE, Int.reduceToNat, Int.reduceGT, Int.reduceGE, Int.reduceNeg, Int.reduceAdd, Int.reduceSub, wrap64, chkAdd, effAdd, AOp.kind, chkAll, chkSee, Nat.reduceLT, zP.down, zQ.down]
                    exact ⟨32 - (i + 1), by omega, i + 1, rfl, by omega, by simp, r1, r2⟩
                  · have c6 : decide (((M.f i).loose[n].s.length : Int) > 0) = false := by simpa using q4
                    rw [if_neg (fun h => q4 h.2.1)] at hcr2
                    have hsn := hnone _ hcr2
                    rw [← hsn] at z1 z3
                    obtain ⟨r1, r2⟩ := hend ρ3 σ3 zs z1 z3 gd3 gz hk3
                    simp -implicitDefEqProofs (disch := first | exact nbf rfl | exact nbt rfl | (simp only [ne_eq, reduceCtorEq, not_false_eq_true]; done) | omega | (simp -implicitDefEqProofs only [St.n_push, St.n_put, St.n_bump, List.length_set] <;> omega) | fail) only [p0, p1, p2, p7, p8, p9, p10, p15, fcell, c3, c4, c5, c6, a1, b0, b1, vlen, vsize, gz, z1, z3, gd3, ha, l1, w4, aCallv, aPtrEq, XOp.kind, AOp.run, AO.eval, put, reduceCtorEq, aInt, Nat.reduceEqDiff, initEnv, V.bool, V.i64, resultsOf, AR.get, aExtract, aUn, Int.reduceEq, Int.reduceBEq, Int.reduceBNe, aBox, aLoad, aStore, aPart, aPlace, aArrIdx, aIdx, aLenStr, aConv, aFold, aMinMax, aEqV, aNilCheck, fillV, aEqBool, aEqInt, aEqStr, Nat.reduceAdd, Nat.reduceLeDiff, Nat.reduceMul, Int.reduceLT, Int.reduceLE, Int.reduceToNat, Int.reduceGT, Int.reduceGE, Int.reduceNeg, Int.reduceAdd, Int.reduceSub, wrap64, chkAdd, effAdd, AOp.kind, chkAll, chkSee, Nat.reduceLT, zP.down, zQ.down]
                    exact ⟨32 - (i + 1), by omega, i + 1, rfl, by omega, by simp, r1, r2⟩
                · have c5 : decide (torn > 0) = false := by simpa using q3
                  rw [if_neg (fun h => q3 h.2.2)] at hcr2
                  have hsn := hnone _ hcr2
                  rw [← hsn] at z1 z3
                  obtain ⟨r1, r2⟩ := hend ρ3 σ3 zs z1 z3 gd3 gz hk3
                  simp -implicitDefEqProofs (disch := first | exact nbf rfl | exact nbt rfl | (simp only [ne_eq, reduceCtorEq, not_false_eq_true]; done) | omega | (simp -implicitDefEqProofs only [St.n_push, St.n_put, St.n_bump, List.length_set] <;> omega) | fail) only [p0, p1, p2, p7, p8, p9, p10, p15, fcell, c3, c4, c5, a1, b0, b1, vlen, vsize, gz, z1, z3, gd3, ha, l1, w4, aCallv, aPtrEq, XOp.kind, AOp.run, AO.eval, put, reduceCtorEq, aInt, Nat.reduceEqDiff, initEnv, V.bool, V.i64, resultsOf, AR.get, aExtract, aUn, Int.reduceEq, Int.reduceBEq, Int.reduceBNe, aBox, aLoad, aStore, aPart, aPlace, aArrIdx, aIdx, aLenStr, aConv, aFold, aMinMax, aEqV, aNilCheck, fillV, aEqBool, aEqInt, aEqStr, Nat.reduceAdd, Nat.reduceLeDiff, Nat.reduceMul, Int.reduceLT, Int.reduceLE, Int.reduceToNat, Int.reduceGT, Int.reduceGE, Int.reduceNeg, Int.reduceAdd, Int.reduceSub, wrap64, chkAdd, effAdd, AOp.kind, chkAll, chkSee, Nat.reduceLT, zP.down, zQ.down]
                  exact ⟨32 - (i + 1), by omega, i + 1, rfl, by omega, by simp, r1, r2⟩
              · have c4 := beq_eq_false_iff_ne.2 q2
                rw [if_neg (fun h => q2 h.1)] at hcr2
                have hsn := hnone _ hcr2
                rw [← hsn] at z1 z3
                obtain ⟨r1, r2⟩ := hend ρ3 σ3 zs z1 z3 gd3 gz hk3
                simp -implicitDefEqProofs (disch := first | exact nbf rfl | exact nbt rfl | (simp only [ne_eq, reduceCtorEq, not_false_eq_true]; done) | omega | (simp -implicitDefEqProofs only [St.n_push, St.n_put, St.n_bump, List.length_set] <;> omega) | fail) only [p0, p1, p2, p7, p8, p9, p10, p15, fcell, c3, c4, a1, b0, b1, vlen, vsize, gz, z1, z3, gd3, ha, l1, w4, aCallv, aPtrEq, XOp.kind, AOp.run, AO.eval, put, reduceCtorEq, aInt, Nat.reduceEqDiff, initEnv, V.bool, V.i64, resultsOf, AR.get, aExtract, aUn, Int.reduceEq, Int.reduceBEq, Int.reduceBNe, aBox, aLoad, aStore, aPart, aPlace, aArrIdx, aIdx, aLenStr, aConv, aFold, aMinMax, aEqV, aNilCheck, fillV, aEqBool, aEqInt, aEqStr, Nat.reduceAdd, Nat.reduceLeDiff, Nat.reduceMul, Int.reduceLT, Int.reduceLE, Int.reduceToNat, Int.reduceGT, Int.reduceGE, Int.reduceNeg, Int.reduceAdd, Int.reduceSub, wrap64, chkAdd, effAdd, AOp.kind, chkAll, chkSee, Nat.reduceLT, zP.down, zQ.down]
                exact ⟨32 - (i + 1), by omega, i + 1, rfl, by omega, by simp, r1, r2⟩
            · have c3 : decide ((n : Int) < ((M.f i).loose.length : Int)) = false := by simpa using q1
              have hcr2 := hcr
              unfold FM.crashN at hcr2
              have hnn : (M.f i).loose[n]? = none := List.getElem?_eq_none (by omega)
              rw [hnn] at hcr2
              dsimp only at hcr2
              have hsn := hnone _ hcr2
              rw [← hsn] at z1 z3
              obtain ⟨r1, r2⟩ := hend ρ3 σ3 zs z1 z3 gd3 gz hk3
              simp -implicitDefEqProofs (disch := first | exact nbf rfl | exact nbt rfl | (simp only [ne_eq, reduceCtorEq, not_false_eq_true]; done) | omega | (simp -implicitDefEqProofs only [St.n_push, St.n_put, St.n_bump, List.length_set] <;> omega) | fail) only [p0, p1, p2, p7, p8, p9, p10, p15, fcell, c3, vlen, vsize, gz, z1, z3, gd3, ha, l1, w4, aCallv, aPtrEq, XOp.kind, AOp.run, AO.eval, put, reduceCtorEq, aInt, Nat.reduceEqDiff, initEnv, V.bool, V.i64, resultsOf, AR.get, aExtract, aUn, Int.reduceEq, Int.reduceBEq, Int.reduceBNe, aBox, aLoad, aStore, aPart, aPlace, aArrIdx, aIdx, aLenStr, aConv, aFold, aMinMax, aEqV, aNilCheck, fillV, aEqBool, aEqInt, aEqStr, Nat.reduceAdd, Nat.reduceLeDiff, Nat.reduceMul, Int.reduceLT, Int.reduceLE, Int.reduceToNat, Int.reduceGT, Int.reduceGE, Int.reduceNeg, Int.reduceAdd, Int.reduceSub, wrap64, chkAdd, effAdd, AOp.kind, chkAll, chkSee, Nat.reduceLT, zP.down, zQ.down]
              exact ⟨32 - (i + 1), by omega, i + 1, rfl, by omega, by simp, r1, r2⟩
        · have c2 : decide ((i : Int) < (keep.length : Int)) = false := by simpa using hki
          have hkg : (keep[i]?).getD 0 = 0 := by rw [List.getElem?_eq_none (by omega)]; rfl
          have hn0 : n = 0 := by rw [hkg] at hn; omega
          have e00 : (.sc (.int .i64 0) : V) = .sc (.int .i64 (n : Int)) := by rw [hn0]; rfl
          have hw1' : ∀ σ2, aSliceR σ2 v none (some (.sc (.int .i64 0))) none = some w := by
            intro σ2
            have := hw1 σ2
            rw [hn0] at this
            exact this
          simp -implicitDefEqProofs (disch := first | exact nbf rfl | exact nbt rfl | (simp only [ne_eq, reduceCtorEq, not_false_eq_true]; done) | omega | (simp -implicitDefEqProofs only [St.n_push, St.n_put, St.n_bump, List.length_set] <;> omega) | fail) only [c1, c2, e0, e1, e2, e15, klen, ksize, ha, g, l1, t1, fcell, hcell.1, hcell.2, vlen, vsize, hσa, hσb, hw1', wlen, aCallv, aPtrEq, XOp.kind, AOp.run, AO.eval, put, reduceCtorEq, aInt, Nat.reduceEqDiff, initEnv, V.bool, V.i64, resultsOf, AR.get, aExtract, aUn, Int.reduceEq, Int.reduceBEq, Int.reduceBNe, aBox, aLoad, aStore, aPart, aPlace, aArrIdx, aIdx, aLenStr, aConv, aMinMax, aEqV, aNilCheck, fillV, aEqBool, aEqInt, aEqStr, Nat.reduceAdd, Nat.reduceLeDiff, Nat.reduceMul, Int.reduceLT, Int.reduceLE, Int.reduceToNat, Int.reduceGT, Int.reduceGE, Int.reduceNeg, Int.reduceAdd, Int.reduceSub, wrap64, chkAdd, effAdd, AOp.kind, chkAll, chkSee, Nat.reduceLT, zP.down, zQ.down]
          repeat (first | refine w_fin ?_ | refine w_seq ?_ | refine w_block ?_ | refine w_reg ?_ | refine w_op ?_ | refine w_dop ?_)
          refine W.mono (Q := fun r => ∃ (ρ3 : Env) (σ3 : St) (zs : List V) (u : V), r = ((.exit 2 : Ex), ρ3, σ3) ∧ ρ3 0 = .ptr d 0 ∧ ρ3 1 = kv ∧ ρ3 2 = .sc (.int .i64 torn) ∧ ρ3 7 = .sc (.int .i64 i) ∧ ρ3 8 = .agg (fcell (M.f i) v) ∧ ρ3 9 = .sc (.int .i64 n) ∧ ρ3 10 = .ptr σa.n 0 ∧ ρ3 15 = .sc (.int .i64 i) ∧ σ3.get d = some (.cells cs) ∧ σ3.get σa.n = some (.cells zs) ∧ zs.length = 5 ∧ FN zs 0 (seenOf (M.f i).sure ((M.f i).loose.take n)) ((M.f i).loose.take n) u ∧ Kept (· = d) σ σ3) ?_ ?_
          · refine w_loop (fun m ρ3 σ3 => ∃ (j : Nat) (zs : List V) (u : V), m = n - j ∧ j ≤ n ∧ ρ3 0 = .ptr d 0 ∧ ρ3 1 = kv ∧ ρ3 2 = .sc (.int .i64 torn) ∧ ρ3 7 = .sc (.int .i64 i) ∧ ρ3 8 = .agg (fcell (M.f i) v) ∧ ρ3 9 = .sc (.int .i64 n) ∧ ρ3 10 = .ptr σa.n 0 ∧ ρ3 15 = .sc (.int .i64 i) ∧ ρ3 45 = w ∧ ρ3 46 = .sc (.int .i64 n) ∧ ρ3 47 = .sc (.int .i64 j) ∧ σ3.get d = some (.cells cs) ∧ σ3.get σa.n = some (.cells zs) ∧ zs.length = 5 ∧ FN zs 0 (seenOf (M.f i).sure ((M.f i).loose.take j)) ((M.f i).loose.take j) u ∧ Kept (· = d) σ σ3) n (by omega) ?_ ?_
            · refine ⟨0, _, .sc .nilS, rfl, Nat.zero_le _, ?_, ?_, ?_, ?_, ?_, ?_, ?_, ?_, ?_, ?_, ?_, gd, gy, rfl, ⟨by simp, .nil, rfl, rfl, rfl⟩, kb⟩
              all_goals first | rfl | (simp -implicitDefEqProofs (disch := first | exact nbf rfl | exact nbt rfl | (simp only [ne_eq, reduceCtorEq, not_false_eq_true]; done) | omega | (simp -implicitDefEqProofs only [St.n_push, St.n_put, St.n_bump, List.length_set] <;> omega) | fail) only [e0, e1, e2, e15, aCallv, aPtrEq, XOp.kind, AOp.run, AO.eval, put, reduceCtorEq, aInt, Nat.reduceEqDiff, initEnv, V.bool, V.i64, resultsOf, AR.get, aExtract, aUn, Int.reduceEq, Int.reduceBEq, Int.reduceBNe, aBox, aLoad, aStore, aPart, aPlace, aArrAddr, aArrIdx, aIdx, aLenStr, aConv, aFold, aMinMax, aEqV, aNilCheck, fillV, aEqBool, aEqInt, aEqStr, Nat.reduceAdd, Nat.reduceLeDiff, Nat.reduceMul, Int.reduceLT, Int.reduceLE, Int.reduceToNat, Int.reduceGT, Int.reduceGE, Int.reduceNeg, Int.reduceAdd, Int.reduceSub, wrap64, chkAdd, effAdd, AOp.kind, chkAll, chkSee, Nat.reduceLT, zP.down, zQ.down]; done) | (simp -implicitDefEqProofs (disch := first | exact nbf rfl | exact nbt rfl | (simp only [ne_eq, reduceCtorEq, not_false_eq_true]; done) | omega | (simp -implicitDefEqProofs only [St.n_push, St.n_put, St.n_bump, List.length_set] <;> omega) | fail) only [e0, e1, e2, e15, fcell, aCallv, aPtrEq, XOp.kind, AOp.run, AO.eval, put, reduceCtorEq, aInt, Nat.reduceEqDiff, initEnv, V.bool, V.i64, resultsOf, AR.get, aExtract, aUn, Int.reduceEq, Int.reduceBEq, Int.reduceBNe, aBox, aLoad, aStore, aPart, aPlace, aArrAddr, aArrIdx, aIdx, aLenStr, aConv, aFold, aMinMax, aEqV, aNilCheck, fillV, aEqBool, aEqInt, aEqStr, Nat.reduceAdd, Nat.reduceLeDiff, Nat.reduceMul, Int.reduceLT, Int.reduceLE, Int.reduceToNat, Int.reduceGT, Int.reduceGE, Int.reduceNeg, Int.reduceAdd, Int.reduceSub, wrap64, chkAdd, effAdd, AOp.kind, chkAll, chkSee, Nat.reduceLT, zP.down, zQ.down]; done) | (simp -implicitDefEqProofs (disch := first | exact nbf rfl | exact nbt rfl | (simp only [ne_eq, reduceCtorEq, not_false_eq_true]; done) | omega | (simp -implicitDefEqProofs only [St.n_push, St.n_put, St.n_bump, List.length_set] <;> omega) | fail) only [hn0, aCallv, aPtrEq, XOp.kind, AOp.run, AO.eval, put, reduceCtorEq, aInt, Nat.reduceEqDiff, initEnv, V.bool, V.i64, resultsOf, AR.get, aExtract, aUn, Int.reduceEq, Int.reduceBEq, Int.reduceBNe, aBox, aLoad, aStore, aPart, aPlace, aArrAddr, aArrIdx, aIdx, aLenStr, aConv, aFold, aMinMax, aEqV, aNilCheck, fillV, aEqBool, aEqInt, aEqStr, Nat.reduceAdd, Nat.reduceLeDiff, Nat.reduceMul, Int.reduceLT, Int.reduceLE, Int.reduceToNat, Int.reduceGT, Int.reduceGE, Int.reduceNeg, Int.reduceAdd, Int.reduceSub, wrap64, chkAdd, effAdd, AOp.kind, chkAll, chkSee, Nat.reduceLT, zP.down, zQ.down]; done) | (simp -implicitDefEqProofs (disch := first | exact nbf rfl | exact nbt rfl | (simp only [ne_eq, reduceCtorEq, not_false_eq_true]; done) | omega | (simp -implicitDefEqProofs only [St.n_push, St.n_put, St.n_bump, List.length_set] <;> omega) | fail) only [hn0, aCallv, aPtrEq, XOp.kind, AOp.run, AO.eval, put, reduceCtorEq, aInt, Nat.reduceEqDiff, initEnv, V.bool, V.i64, resultsOf, AR.get, aExtract, aUn, Int.reduceEq, Int.reduceBEq, Int.reduceBNe, aBox, aLoad, aStore, aPart, aPlace, aArrAddr, aArrIdx, aIdx, aLenStr, aConv, aFold, aMinMax, aEqV, aNilCheck, fillV, aEqBool, aEqInt, aEqStr, Nat.reduceAdd, Nat.reduceLeDiff, Nat.reduceMul, Int.reduceLT, Int.reduceLE, Int.reduceToNat, Int.reduceGT, Int.reduceGE, Int.reduceNeg, Int.reduceAdd, Int.reduceSub, wrap64, chkAdd, effAdd, AOp.kind, chkAll, chkSee, Nat.reduceLT, zP.down, zQ.down]; rfl)
            · rintro m3 ρ3 σ3 ⟨j, zs, u, hm3, hj, p0, p1, p2, p7, p8, p9, p10, p15, p45, p46, p47, gd3, gz, hz, hfn, hk3⟩
              by_cases hjn : j < n
              · exact absurd hjn (by omega)
              · have c3 : decide ((j : Int) < (n : Int)) = false := by simpa using hjn
                have hjn : j = n := by omega
                subst hjn
                simp -implicitDefEqProofs (disch := first | exact nbf rfl | exact nbt rfl | (simp only [ne_eq, reduceCtorEq, not_false_eq_true]; done) | omega | (simp -implicitDefEqProofs only [St.n_push, St.n_put, St.n_bump, List.length_set] <;> omega) | fail) only [c3, p46, p47, aCallv, aPtrEq, XOp.kind, AOp.run, AO.eval, put, reduceCtorEq, aInt, Nat.reduceEqDiff, initEnv, V.bool, V.i64, resultsOf, AR.get, aExtract, aUn, Int.reduceEq, Int.reduceBEq, Int.reduceBNe, aBox, aLoad, aStore, aPart, aPlace, aArrAddr, aArrIdx, aIdx, aLenStr, aConv, aFold, aMinMax, aEqV, aNilCheck, fillV, aEqBool, aEqInt, aEqStr, Nat.reduceAdd, Nat.reduceLeDiff, Nat.reduceMul, Int.reduceLT, Int.reduceLE, Int.reduceToNat, Int.reduceGT, Int.reduceGE, Int.reduceNeg, Int.reduceAdd, Int.reduceSub, wrap64, chkAdd, effAdd, AOp.kind, chkAll, chkSee, Nat.reduceLT, zP.down, zQ.down]
                refine ⟨_, _, zs, u, rfl, ?_, ?_, ?_, ?_, ?_, ?_, ?_, ?_, gd3, gz, hz, hfn, hk3⟩
                all_goals (simp -implicitDefEqProofs (disch := first | exact nbf rfl | exact nbt rfl | (simp only [ne_eq, reduceCtorEq, not_false_eq_true]; done) | omega | (simp -implicitDefEqProofs only [St.n_push, St.n_put, St.n_bump, List.length_set] <;> omega) | fail) only [p0, p1, p2, p7, p8, p9, p10, p15, aCallv, aPtrEq, XOp.kind, AOp.run, AO.eval, put, reduceCtorEq, aInt, Nat.reduceEqDiff, initEnv, V.bool, V.i64, resultsOf, AR.get, aExtract, aUn, Int.reduceEq, Int.reduceBEq, Int.reduceBNe, aBox, aLoad, aStore, aPart, aPlace, aArrAddr, aArrIdx, aIdx, aLenStr, aConv, aFold, aMinMax, aEqV, aNilCheck, fillV, aEqBool, aEqInt, aEqStr, Nat.reduceAdd, Nat.reduceLeDiff, Nat.reduceMul, Int.reduceLT, Int.reduceLE, Int.reduceToNat, Int.reduceGT, Int.reduceGE, Int.reduceNeg, Int.reduceAdd, Int.reduceSub, wrap64, chkAdd, effAdd, AOp.kind, chkAll, chkSee, Nat.reduceLT, zP.down, zQ.down]; done)
          · rintro _ ⟨ρ3, σ3, zs, u, rfl, p0, p1, p2, p7, p8, p9, p10, p15, gd3, gz, hz, hfn, hk3⟩
            have hne : d ≠ σa.n := by omega
            -- what is written in the end
            have hend : ∀ (ρ4 : Env) (σ4 : St) (zs4 : List V), zs4[1]? = some (.str ((M.f i).crash ((keep[i]?).getD 0) torn).seen.s) → zs4[3]? = some (.sc (.bool ((M.f i).crash ((keep[i]?).getD 0) torn).seen.there)) → σ4.get d = some (.cells cs) → σ4.get σa.n = some (.cells zs4) → Kept (· = d) σ σ4 →
                DR (σ4.put d (some (.cells (splice cs (i * 5) [.str ((M.f i).crash ((keep[i]?).getD 0) torn).seen.s, .str ((M.f i).crash ((keep[i]?).getD 0) torn).seen.s, .sc (.bool ((M.f i).crash ((keep[i]?).getD 0) torn).seen.there), .sc (.bool ((M.f i).crash ((keep[i]?).getD 0) torn).seen.there), .sc .nilS])))) d (M.part keep torn (i + 1)) ∧ Kept (· = d) σ (σ4.put d (some (.cells (splice cs (i * 5) [.str ((M.f i).crash ((keep[i]?).getD 0) torn).seen.s, .str ((M.f i).crash ((keep[i]?).getD 0) torn).seen.s, .sc (.bool ((M.f i).crash ((keep[i]?).getD 0) torn).seen.there), .sc (.bool ((M.f i).crash ((keep[i]?).getD 0) torn).seen.there), .sc .nilS])))) := by
              intro ρ4 σ4 zs4 _ _ g1 _ k1
              obtain ⟨q1, q2⟩ := crash_sure (M.f i) ((keep[i]?).getD 0) torn
              refine ⟨⟨_, get_put_self g1, ?_⟩, k1.put (.inl rfl) (St.get_lt g1) _⟩
              rw [← part_succ]
              exact hc.file hl _ q1 q2
            have w4 : IntKind.i64.wrap ((i : Int) + 1) = (i : Int) + 1 := wrap64 (by omega) (by omega)
            have z1 := hfn.c1
            have z3 := hfn.c3
            have hnone : ∀ x, ((M.f i).crash ((keep[i]?).getD 0) torn) = ⟨x, []⟩ → ((M.f i).crash ((keep[i]?).getD 0) torn).seen = x := fun x hx => by rw [hx]; rfl
            have stop : (M.f i).crash ((keep[i]?).getD 0) torn = ⟨seenOf (M.f i).sure ((M.f i).loose.take n), []⟩ → ∀ Q : V × St → Prop, True := fun _ _ => trivial
            by_cases q1 : n < (M.f i).loose.length
            · have c3 : decide ((n : Int) < ((M.f i).loose.length : Int)) = true := by simpa using q1
              obtain ⟨a1, a2, a3⟩ := hv.rv.at (i := n) (by simpa using q1)
              have b0 := hv.rv.cellAt (i := n) (j := 0) (by simpa using q1) (by omega)
              have b1 := hv.rv.cellAt (i := n) (j := 1) (by simpa using q1) (by omega)
              simp only [List.getElem_map, chc, List.getElem?_cons_zero, List.getElem?_cons_succ, Nat.add_zero] at b0 b1
              have hcr2 := hcr
              unfold FM.crashN at hcr2
              rw [List.getElem?_eq_getElem q1] at hcr2
              dsimp only at hcr2
              have hokn := okl_at q1 hfm.1.ok
              by_cases q2 : (M.f i).loose[n].k = 1
              · have c4 := beq_iff_eq.2 q2
                by_cases q3 : 0 < torn
                · have c5 : decide (torn > 0) = true := by simpa using q3
                  by_cases q4 : 0 < (M.f i).loose[n].s.length
                  · have c6 : decide (((M.f i).loose[n].s.length : Int) > 0) = true := by simpa using q4
                    rw [if_pos ⟨q2, q4, q3⟩] at hcr2
                    have hsn := hnone _ hcr2
                    have hlen1 : (M.f i).loose[n].s.length ≤ 1048576 := by
                      rcases hokn with ⟨_, h⟩ | ⟨h, _⟩ | h
                      · omega
                      · omega
                      · omega
                    have w5 : IntKind.i64.wrap (((M.f i).loose[n].s.length : Int) - 1) = ((M.f i).loose[n].s.length : Int) - 1 := wrap64 (by omega) (by omega)
                    have hmin := min64 torn (((M.f i).loose[n].s.length : Int) - 1)
                    have sl : aSlice (.str (M.f i).loose[n].s) none (some (.sc (.int .i64 (min torn (((M.f i).loose[n].s.length : Int) - 1))))) none = some (.str ((M.f i).loose[n].s.take (min torn (((M.f i).loose[n].s.length : Int) - 1)).toNat)) := by
                      have h1 : (0 : Int) ≤ min torn (((M.f i).loose[n].s.length : Int) - 1) := by omega
                      have h2 : min torn (((M.f i).loose[n].s.length : Int) - 1) ≤ ((M.f i).loose[n].s.length : Int) := by omega
                      simp [aSlice, aBounds, aBnd, h1, h2]
                    have hd2 := hdoes σ3 σa.n zs _ _ u ⟨1, (M.f i).loose[n].s.take (min torn (((M.f i).loose[n].s.length : Int) - 1)).toNat, 0⟩ gz hfn (.inl ⟨rfl, by
                      rcases hokn with ⟨_, h⟩ | ⟨h, _⟩ | h
                      · dsimp only; rw [List.length_take]; omega
                      · omega
                      · omega⟩) (seen_len (okl_take n hfm.1.ok) hfm.1.len) (by simp; omega)
                    simp only [chc] at hd2
                    simp -implicitDefEqProofs (disch := first | exact nbf rfl | exact nbt rfl | (simp only [ne_eq, reduceCtorEq, not_false_eq_true]; done) | omega | (simp -implicitDefEqProofs only [St.n_push, St.n_put, St.n_bump, List.length_set] <;> omega) | fail) only [p0, p1, p2, p7, p8, p9, p10, p15, fcell, c3, c4, c5, c6, a1, b0, b1, vlen, vsize, w5, hmin, sl, aCallv, aPtrEq, XOp.kind, AOp.run, AO.eval, put, reduceCtorEq, aInt, Nat.reduceEqDiff, initEnv, V.bool, V.i64, resultsOf, AR.get, aExtract, aUn, Int.reduceEq, Int.reduceBEq, Int.reduceBNe, aBox, aLoad, aStore, aPart, aPlace, aArrAddr, aArrIdx, aIdx, aLenStr, aConv, aMinMax, aEqV, aNilCheck, fillV, aEqBool, aEqInt, aEqStr, Nat.reduceAdd, Nat.reduceLeDiff, Nat.reduceMul, Int.reduceLT, Int.reduceLE, Int.reduceToNat, Int.reduceGT, Int.reduceGE, Int.reduceNeg, Int.reduceAdd, Int.reduceSub, wrap64, chkAdd, effAdd, AOp.kind, chkAll, chkSee, Nat.reduceLT, zP.down, zQ.down]
                    repeat (first | refine w_fin ?_ | refine w_seq ?_ | refine w_block ?_ | refine w_reg ?_ | refine w_op ?_ | refine w_dop ?_)
                    refine hd2.mono ?_
                    rintro ⟨_, σ4⟩ ⟨rfl, zs', u', g4, z4, f4, _, k4⟩
                    dsimp only at g4 k4
                    have f1 := f4.c1
                    have f3 := f4.c3
                    rw [← hsn] at f1 f3
                    have gd4 := k4.get _ _ hne gd3
                    have k5 : Kept (· = d) σ σ4 := ⟨Nat.le_trans hk3.n k4.n, fun q x hq hx => by
                      have h1 := hk3.get q x hq hx
                      have h2 := hold q x hx
                      exact k4.get q x (by omega) h1⟩
                    obtain ⟨r1, r2⟩ := hend ρ3 σ4 zs' f1 f3 gd4 g4 k5
                    simp -implicitDefEqProofs (disch := first | exact nbf rfl | exact nbt rfl | (simp only [ne_eq, reduceCtorEq, not_false_eq_true]; done) | omega | (simp -implicitDefEqProofs only [St.n_push, St.n_put, St.n_bump, List.length_set] <;> omega) | fail) only [p0, p1, p2, p7, p8, p9, p10, p15, fcell, g4, f1, f3, gd4, ha, l1, w4, aCallv, aPtrEq, XOp.kind, AOp.run, AO.eval, put, reduceCtorEq, aInt, Nat.reduceEqDiff, initEnv, V.bool, V.i64, resultsOf, AR.get, aExtract, aUn, Int.reduceEq, Int.reduceBEq, Int.reduceBNe, aBox, aLoad, aStore, aPart, aPlace, aArrIdx, aIdx, aLenStr, aConv, aFold, aMinMax, aEqV, aNilCheck, fillV, aEqBool, aEqInt, aEqStr, Nat.reduceAdd, Nat.reduceLeDiff, Nat.reduceMul, Int.reduceLT, Int.reduceLE, Int.reduceToNat, Int.reduceGT, Int.reduceGE, Int.reduceNeg, Int.reduceAdd, Int.reduceSub, wrap64, chkAdd, effAdd, AOp.kind, chkAll, chkSee, Nat.reduceLT, zP.down, zQ.down]
                    exact ⟨32 - (i + 1), by omega, i + 1, rfl, by omega, by simp, r1, r2⟩
                  · have c6 : decide (((M.f i).loose[n].s.length : Int) > 0) = false := by simpa using q4
                    rw [if_neg (fun h => q4 h.2.1)] at hcr2
                    have hsn := hnone _ hcr2
                    rw [← hsn] at z1 z3
                    obtain ⟨r1, r2⟩ := hend ρ3 σ3 zs z1 z3 gd3 gz hk3
                    simp -implicitDefEqProofs (disch := first | exact nbf rfl | exact nbt rfl | (simp only [ne_eq, reduceCtorEq, not_false_eq_true]; done) | omega | (simp -implicitDefEqProofs only [St.n_push, St.n_put, St.n_bump, List.length_set] <;> omega) | fail) only [p0, p1, p2, p7, p8, p9, p10, p15, fcell, c3, c4, c5, c6, a1, b0, b1, vlen, vsize, gz, z1, z3, gd3, ha, l1, w4, aCallv, aPtrEq, XOp.kind, AOp.run, AO.eval, put, reduceCtorEq, aInt, Nat.reduceEqDiff, initEnv, V.bool, V.i64, resultsOf, AR.get, aExtract, aUn, Int.reduceEq, Int.reduceBEq, Int.reduceBNe, aBox, aLoad, aStore, aPart, aPlace, aArrIdx, aIdx, aLenStr, aConv, aFold, aMinMax, aEqV, aNilCheck, fillV, aEqBool, aEqInt, aEqStr, Nat.reduceAdd, Nat.reduceLeDiff, Nat.reduceMul, Int.reduceLT, Int.reduceLE, Int.reduceToNat, Int.reduceGT, Int.reduceGE, Int.reduceNeg, Int.reduceAdd, Int.reduceSub, wrap64, chkAdd, effAdd, AOp.kind, chkAll, chkSee, Nat.reduceLT, zP.down, zQ.down]
                    exact ⟨32 - (i + 1), by omega, i + 1, rfl, by omega, by simp, r1, r2⟩
                · have c5 : decide (torn > 0) = false := by simpa using q3
                  rw [if_neg (fun h => q3 h.2.2)] at hcr2
                  have hsn := hnone _ hcr2
                  rw [← hsn] at z1 z3
                  obtain ⟨r1, r2⟩ := hend ρ3 σ3 zs z1 z3 gd3 gz hk3
                  simp -implicitDefEqProofs (disch := first | exact nbf rfl | exact nbt rfl | (simp only [ne_eq, reduceCtorEq, not_false_eq_true]; done) | omega | (simp -implicitDefEqProofs only [St.n_push, St.n_put, St.n_bump, List.length_set] <;> omega) | fail) only [p0, p1, p2, p7, p8, p9, p10, p15, fcell, c3, c4, c5, a1, b0, b1, vlen, vsize, gz, z1, z3, gd3, ha, l1, w4, aCallv, aPtrEq, XOp.kind, AOp.run, AO.eval, put, reduceCtorEq, aInt, Nat.reduceEqDiff, initEnv, V.bool, V.i64, resultsOf, AR.get, aExtract, aUn, Int.reduceEq, Int.reduceBEq, Int.reduceBNe, aBox, aLoad, aStore, aPart, aPlace, aArrIdx, aIdx, aLenStr, aConv, aFold, aMinMax, aEqV, aNilCheck, fillV, aEqBool, aEqInt, aEqStr, Nat.reduceAdd, Nat.reduceLeDiff, Nat.reduceMul, Int.reduceLT, Int.reduceLE, Int.reduceToNat, Int.reduceGT, Int.reduceGE, Int.reduceNeg, Int.reduceAdd, Int.reduceSub, wrap64, chkAdd, effAdd, AOp.kind, chkAll, chkSee, Nat.reduceLT, zP.down, zQ.down]
                  exact ⟨32 - (i + 1), by omega, i + 1, rfl, by omega, by simp, r1, r2⟩
              · have c4 := beq_eq_false_iff_ne.2 q2
                rw [if_neg (fun h => q2 h.1)] at hcr2
                have hsn := hnone _ hcr2
                rw [← hsn] at z1 z3
                obtain ⟨r1, r2⟩ := hend ρ3 σ3 zs z1 z3 gd3 gz hk3
                simp -implicitDefEqProofs (disch := first | exact nbf rfl | exact nbt rfl | (simp only [ne_eq, reduceCtorEq, not_false_eq_true]; done) | omega | (simp -implicitDefEqProofs only [St.n_push, St.n_put, St.n_bump, List.length_set] <;> omega) | fail) only [p0, p1, p2, p7, p8, p9, p10, p15, fcell, c3, c4, a1, b0, b1, vlen, vsize, gz, z1, z3, gd3, ha, l1, w4, aCallv, aPtrEq, XOp.kind, AOp.run, AO.eval, put, reduceCtorEq, aInt, Nat.reduceEqDiff, initEnv, V.bool, V.i64, resultsOf, AR.get, aExtract, aUn, Int.reduceEq, Int.reduceBEq, Int.reduceBNe, aBox, aLoad, aStore, aPart, aPlace, aArrIdx, aIdx, aLenStr, aConv, aFold, aMinMax, aEqV, aNilCheck, fillV, aEqBool, aEqInt, aEqStr, Nat.reduceAdd, Nat.reduceLeDiff, Nat.reduceMul, Int.reduceLT, Int.reduceLE, Int.reduceToNat, Int.reduceGT, Int.reduceGE, Int.reduceNeg, Int.reduceAdd, Int.reduceSub, wrap64, chkAdd, effAdd, AOp.kind, chkAll, chkSee, Nat.reduceLT, zP.down, zQ.down]
                exact ⟨32 - (i + 1), by omega, i + 1, rfl, by omega, by simp, r1, r2⟩
            · have c3 : decide ((n : Int) < ((M.f i).loose.length : Int)) = false := by simpa using q1
              have hcr2 := hcr
              unfold FM.crashN at hcr2
              have hnn : (M.f i).loose[n]? = none := List.getElem?_eq_none (by omega)
              rw [hnn] at hcr2
              dsimp only at hcr2
              have hsn := hnone _ hcr2
              rw [← hsn] at z1 z3
              obtain ⟨r1, r2⟩ := hend ρ3 σ3 zs z1 z3 gd3 gz hk3
              simp -implicitDefEqProofs (disch := first | exact nbf rfl | exact nbt rfl | (simp only [ne_eq, reduceCtorEq, not_false_eq_true]; done) | omega | (simp -implicitDefEqProofs only [St.n_push, St.n_put, St.n_bump, List.length_set] <;> omega) | fail) only [p0, p1, p2, p7, p8, p9, p10, p15, fcell, c3, vlen, vsize, gz, z1, z3, gd3, ha, l1, w4, aCallv, aPtrEq, XOp.kind, AOp.run, AO.eval, put, reduceCtorEq, aInt, Nat.reduceEqDiff, initEnv, V.bool, V.i64, resultsOf, AR.get, aExtract, aUn, Int.reduceEq, Int.reduceBEq, Int.reduceBNe, aBox, aLoad, aStore, aPart, aPlace, aArrIdx, aIdx, aLenStr, aConv, aFold, aMinMax, aEqV, aNilCheck, fillV, aEqBool, aEqInt, aEqStr, Nat.reduceAdd, Nat.reduceLeDiff, Nat.reduceMul, Int.reduceLT, Int.reduceLE, Int.reduceToNat, Int.reduceGT, Int.reduceGE, Int.reduceNeg, Int.reduceAdd, Int.reduceSub, wrap64, chkAdd, effAdd, AOp.kind, chkAll, chkSee, Nat.reduceLT, zP.down, zQ.down]
              exact ⟨32 - (i + 1), by omega, i + 1, rfl, by omega, by simp, r1, r2⟩
      · have c1 : decide ((i : Int) < 32) = false := by simp; omega
        have : i = 32 := by omega
        subst this
        simp -implicitDefEqProofs (disch := first | exact nbf rfl | exact nbt rfl | (simp only [ne_eq, reduceCtorEq, not_false_eq_true]; done) | omega | (simp -implicitDefEqProofs only [St.n_push, St.n_put, St.n_bump, List.length_set] <;> omega) | fail) only [c1, e0, e15, aCallv, aPtrEq, XOp.kind, AOp.run, AO.eval, put, reduceCtorEq, aInt, Nat.reduceEqDiff, initEnv, V.bool, V.i64, resultsOf, AR.get, aExtract, aUn, Int.reduceEq, Int.reduceBEq, Int.reduceBNe, aBox, aLoad, aStore, aPart, aPlace, aArrAddr, aArrIdx, aIdx, aLenStr, aConv, aFold, aMinMax, aEqV, aNilCheck, fillV, aEqBool, aEqInt, aEqStr, Nat.reduceAdd, Nat.reduceLeDiff, Nat.reduceMul, Int.reduceLT, Int.reduceLE, Int.reduceToNat, Int.reduceGT, Int.reduceGE, Int.reduceNeg, Int.reduceAdd, Int.reduceSub, wrap64, chkAdd, effAdd, AOp.kind, chkAll, chkSee, Nat.reduceLT, zP.down, zQ.down]
        refine ⟨_, _, rfl, ?_, hd, hkept⟩
        simp -implicitDefEqProofs (disch := first | exact nbf rfl | exact nbt rfl | (simp only [ne_eq, reduceCtorEq, not_false_eq_true]; done) | omega | (simp -implicitDefEqProofs only [St.n_push, St.n_put, St.n_bump, List.length_set] <;> omega) | fail) only [e0, aCallv, aPtrEq, XOp.kind, AOp.run, AO.eval, put, reduceCtorEq, aInt, Nat.reduceEqDiff, initEnv, V.bool, V.i64, resultsOf, AR.get, aExtract, aUn, Int.reduceEq, Int.reduceBEq, Int.reduceBNe, aBox, aLoad, aStore, aPart, aPlace, aArrAddr, aArrIdx, aIdx, aLenStr, aConv, aFold, aMinMax, aEqV, aNilCheck, fillV, aEqBool, aEqInt, aEqStr, Nat.reduceAdd, Nat.reduceLeDiff, Nat.reduceMul, Int.reduceLT, Int.reduceLE, Int.reduceToNat, Int.reduceGT, Int.reduceGE, Int.reduceNeg, Int.reduceAdd, Int.reduceSub, wrap64, chkAdd, effAdd, AOp.kind, chkAll, chkSee, Nat.reduceLT, zP.down, zQ.down]
  · rintro _ ⟨ρ, σ2, rfl, e0, ⟨cs, g, hc⟩, hkept⟩
    have hl := hc.len
    have l0 : (160 + 1 ≤ cs.length) = True := by simp only [eq_iff_iff, iff_true]; omega
    simp -implicitDefEqProofs (disch := first | exact nbf rfl | exact nbt rfl | (simp only [ne_eq, reduceCtorEq, not_false_eq_true]; done) | omega | (simp -implicitDefEqProofs only [St.n_push, St.n_put, St.n_bump, List.length_set] <;> omega) | fail) only [e0, g, l0, aCallv, aPtrEq, XOp.kind, AOp.run, AO.eval, put, reduceCtorEq, aInt, Nat.reduceEqDiff, initEnv, V.bool, V.i64, resultsOf, AR.get, aExtract, aUn, Int.reduceEq, Int.reduceBEq, Int.reduceBNe, aBox, aLoad, aStore, aPart, aPlace, aArrAddr, aArrIdx, aIdx, aLenStr, aConv, aFold, aMinMax, aEqV, aNilCheck, fillV, aEqBool, aEqInt, aEqStr, Nat.reduceAdd, Nat.reduceLeDiff, Nat.reduceMul, Int.reduceLT, Int.reduceLE, Int.reduceToNat, Int.reduceGT, Int.reduceGE, Int.reduceNeg, Int.reduceAdd, Int.reduceSub, wrap64, chkAdd, effAdd, AOp.kind, chkAll, chkSee, Nat.reduceLT, zP.down, zQ.down]
    refine ⟨⟨_, get_put_self g, ?_⟩, hkept.put (.inl rfl) (St.get_lt g) _⟩
    have := hc.power (-1)
    refine ⟨this.len, this.p, this.o, fun i hi => ?_⟩
    obtain ⟨v, hv⟩ := this.f i hi
    have e : (M.part keep torn 32).f i = (M.crash keep torn).f i := by unfold DM.part DM.crash; simp [hi]
    rw [← e]
    exact ⟨v, hv⟩
end Go.Proofs.Ytkdfahmlcnbadaa.dk
