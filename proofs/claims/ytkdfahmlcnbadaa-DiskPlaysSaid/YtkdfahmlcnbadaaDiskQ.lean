/-
  Files: the program's functions, on.
-/
import Derived.Test.YtkdfahmlcnbadaaDiskP
namespace Go.Proofs.Ytkdfahmlcnbadaa.dk
open Go.Ab
set_option maxRecDepth 100000
set_option maxHeartbeats 8000000
set_option linter.unusedSimpArgs false
set_option linter.unusedVariables false

theorem bsl0 : aBslice 3 0 [.sc (.int .i64 0), .str [], .sc (.int .i64 0)] [] = some (.vs .exact 3 0 []) := rfl
theorem bsl1 (a b c : V) : aBslice 3 1 [.sc (.int .i64 0), .str [], .sc (.int .i64 0)] [(0, 3, .agg [a, b, c])] = some (.vs .exact 3 1 [a, b, c]) := rfl

theorem clone_ok (k : Nat) (ys : YlF) (σ : St) (v : V) (es : List (List V)) (h : RV 3 v es) {lo : Nat} (hlo : lo ≤ σ.n) (hl : es.length ≤ 2000000) :
    W (callY Tab.tb (k + 1) ys 30 [v] σ) fun r => Ow lo r.2 3 r.1 es ∧ Grown lo σ r.2 := by
  rw [s_call (af := Tab.b30) rfl (Nat.le_of_ble_eq_true rfl)]
  generalize callY Tab.tb k = cy
  obtain ⟨b, hb, hbe⟩ := slnil σ h
  cases b with
  | true =>
    have := hbe rfl
    subst this
    simp -implicitDefEqProofs (disch := first | exact nbf rfl | exact nbt rfl | (simp only [ne_eq, reduceCtorEq, not_false_eq_true]; done) | omega | (simp -implicitDefEqProofs only [St.n_push, St.n_put, St.n_bump, List.length_set] <;> omega) | fail) only [Tab.b30, hb, aCallv, aPtrEq, XOp.kind, AOp.run, AO.eval, put, reduceCtorEq, aInt, Nat.reduceEqDiff, initEnv, V.bool, V.i64, resultsOf, AR.get, aExtract, aUn, Int.reduceEq, Int.reduceBEq, Int.reduceBNe, aBox, aLoad, aStore, aPart, aPlace, aArrAddr, aArrIdx, aIdx, aLenStr, aConv, aFold, aMinMax, aNilCheck, fillV, aEqBool, aEqInt, aEqStr, Nat.reduceAdd, Nat.reduceLeDiff, Nat.reduceMul, Int.reduceLT, Int.reduceLE, Int.reduceToNat, Int.reduceGT, Int.reduceGE, Int.reduceNeg, Int.reduceAdd, Int.reduceSub, wrap64, chkAdd, effAdd, AOp.kind, chkAll, chkSee, Nat.reduceLT, zP.down, zQ.down]
    exact ⟨.nil, Grown.refl _ _⟩
  | false =>
    simp -implicitDefEqProofs (disch := first | exact nbf rfl | exact nbt rfl | (simp only [ne_eq, reduceCtorEq, not_false_eq_true]; done) | omega | (simp -implicitDefEqProofs only [St.n_push, St.n_put, St.n_bump, List.length_set] <;> omega) | fail) only [Tab.b30, hb, bsl0, aCallv, aPtrEq, XOp.kind, AOp.run, AO.eval, put, reduceCtorEq, aInt, Nat.reduceEqDiff, initEnv, V.bool, V.i64, resultsOf, AR.get, aExtract, aUn, Int.reduceEq, Int.reduceBEq, Int.reduceBNe, aBox, aLoad, aStore, aPart, aPlace, aArrAddr, aArrIdx, aIdx, aLenStr, aConv, aFold, aMinMax, aNilCheck, fillV, aEqBool, aEqInt, aEqStr, Nat.reduceAdd, Nat.reduceLeDiff, Nat.reduceMul, Int.reduceLT, Int.reduceLE, Int.reduceToNat, Int.reduceGT, Int.reduceGE, Int.reduceNeg, Int.reduceAdd, Int.reduceSub, wrap64, chkAdd, effAdd, AOp.kind, chkAll, chkSee, Nat.reduceLT, zP.down, zQ.down]
    repeat (first | refine w_fin ?_ | refine w_seq ?_ | refine w_block ?_ | refine w_reg ?_ | refine w_op ?_ | refine w_dop ?_)
    refine (grow_ok (lo := lo) (es := []) (ms := es) (.exact (by simp) (by simp)) h hlo (by unfold roomB; simp; omega) (by unfold roomB; simp; omega)).mono ?_
    rintro ⟨w, σ2⟩ ⟨h1, h2⟩
    simp -implicitDefEqProofs (disch := first | exact nbf rfl | exact nbt rfl | (simp only [ne_eq, reduceCtorEq, not_false_eq_true]; done) | omega | (simp -implicitDefEqProofs only [St.n_push, St.n_put, St.n_bump, List.length_set] <;> omega) | fail) only [aCallv, aPtrEq, XOp.kind, AOp.run, AO.eval, put, reduceCtorEq, aInt, Nat.reduceEqDiff, initEnv, V.bool, V.i64, resultsOf, AR.get, aExtract, aUn, Int.reduceEq, Int.reduceBEq, Int.reduceBNe, aBox, aLoad, aStore, aPart, aPlace, aArrAddr, aArrIdx, aIdx, aLenStr, aConv, aFold, aMinMax, aEqV, aNilCheck, fillV, aEqBool, aEqInt, aEqStr, Nat.reduceAdd, Nat.reduceLeDiff, Nat.reduceMul, Int.reduceLT, Int.reduceLE, Int.reduceToNat, Int.reduceGT, Int.reduceGE, Int.reduceNeg, Int.reduceAdd, Int.reduceSub, wrap64, chkAdd, effAdd, AOp.kind, chkAll, chkSee, Nat.reduceLT, zP.down, zQ.down]
    exact ⟨by simpa using h1, h2⟩

theorem chc_all (l : List Ch) : (∀ e ∈ l.map chc, e.length = 3) ∧ ∀ e ∈ l.map chc, e.all V.oneCell = true := by
  constructor
  · intro e he; obtain ⟨c, _, rfl⟩ := List.mem_map.1 he; rfl
  · intro e he; obtain ⟨c, _, rfl⟩ := List.mem_map.1 he; rfl
/-- What is seen of a file, in an object. -/
structure FN (cs : List V) (off : Nat) (x : S2) (l : List Ch) (v : V) : Prop where
  len : off + 5 ≤ cs.length
  rv : RV 3 v (l.map chc)
  c1 : cs[off + 1]? = some (.str x.s)
  c3 : cs[off + 3]? = some (.sc (.bool x.there))
  c4 : cs[off + 4]? = some v
theorem FN.change {cs : List V} {off : Nat} {x : S2} {l : List Ch} {v : V} (h : FN cs off x l v) (c : Ch) {v' : V} (hv : RV 3 v' ((l ++ [c]).map chc)) {a b : V} (ha : a = .str (done x c).s) (hb : b = .sc (.bool (done x c).there)) :
    FN (((cs.set (off + 1) a).set (off + 3) b).set (off + 4) v') off (done x c) (l ++ [c]) v' := by
  have hl := h.len
  refine ⟨by simpa using hl, hv, ?_, ?_, ?_⟩
  · rw [List.getElem?_set_ne (by omega), List.getElem?_set_ne (by omega), set_self (by omega), ha]
  · rw [List.getElem?_set_ne (by omega), set_self (by simp; omega), hb]
  · rw [set_self (by simp; omega)]
theorem FC.fn {cs : List V} {off : Nat} {F : FM} {v : V} (h : FC cs off F v) : FN cs off F.seen F.loose v := ⟨h.len, h.rv, h.c1, h.c3, h.c4⟩

theorem does_ok (k : Nat) (ys : YlF) (σ : St) (o off : Nat) (cs : List V) (x : S2) (l : List Ch) (v : V) (c : Ch) (g : σ.get o = some (.cells cs)) (h : FN cs off x l v) (hc : Okc x c) (hsl : x.s.length ≤ 1048576) (hl : l.length ≤ 1000000) :
    W (callY Tab.tb (k + 2) ys 29 [.ptr o off, .agg (chc c)] σ) fun r => r.1 = .tup [] ∧ ∃ cs' v', r.2.get o = some (.cells cs') ∧ cs'.length = cs.length ∧ FN cs' off (done x c) (l ++ [c]) v' ∧ (∀ j, j ≠ off + 1 → j ≠ off + 3 → j ≠ off + 4 → cs'[j]? = cs[j]?) ∧ Kept (· = o) σ r.2 := by
  rw [s_call (af := Tab.b29) rfl (Nat.le_of_ble_eq_true rfl)]
  have hd := St.get_lt g
  have gb : σ.bump.get o = some (.cells cs) := by rw [St.get_bump]; exact g
  have hdb := St.get_lt gb
  have hle := h.len
  have l1 : (off + 1 + 1 ≤ cs.length) = True := by simp only [eq_iff_iff, iff_true]; omega
  have l3 : (off + 3 + 1 ≤ cs.length) = True := by simp only [eq_iff_iff, iff_true]; omega
  have l4 : (off + 4 + 1 ≤ cs.length) = True := by simp only [eq_iff_iff, iff_true]; omega
  have hcl := fun σ' => clone_ok (lo := σ.n) k ys σ' v _ h.rv
  generalize callY Tab.tb (k + 1) = cy at hcl ⊢
  -- the last step
  have fin : ∀ (a b : V) σ', a = .str (done x c).s → b = .sc (.bool (done x c).there) → σ.n ≤ σ'.n → Kept (· = o) σ σ' → σ'.get o = some (.cells ((cs.set (off + 1) a).set (off + 3) b)) →
      W (cy ys 30 [v] σ') fun r => ∃ w σ2, r = (w, σ2) ∧ σ2.get o = some (.cells ((cs.set (off + 1) a).set (off + 3) b)) ∧ W (aAppend false 3 32 σ2 w (.vs .exact 3 1 (chc c))) fun s => ∃ v' σ3, s = (v', σ3) ∧ Cell1 v' ∧ σ3.get o = some (.cells ((cs.set (off + 1) a).set (off + 3) b)) ∧ ∀ cs', cs' = (((cs.set (off + 1) a).set (off + 3) b).set (off + 4) v') → ∃ cs2 v2, (σ3.put o (some (.cells cs'))).get o = some (.cells cs2) ∧ cs2.length = cs.length ∧ FN cs2 off (done x c) (l ++ [c]) v2 ∧ (∀ j, j ≠ off + 1 → j ≠ off + 3 → j ≠ off + 4 → cs2[j]? = cs[j]?) ∧ Kept (· = o) σ (σ3.put o (some (.cells cs'))) := by
    intro a b σ' ha hb hn hk hg
    refine (hcl σ' (by omega) (by simp; omega)).mono ?_
    rintro ⟨w, σ2⟩ ⟨h1, h2⟩
    refine ⟨w, σ2, rfl, h2.cells hg, ?_⟩
    have hrv : RV 3 (.vs .exact 3 1 (chc c)) [chc c] := RV.vs (own := .exact) (es := [chc c]) (by simp [chc]) (by simp [chc, V.oneCell])
    refine (grow_ok h1 hrv (by show σ.n ≤ σ2.n; have h := h2.n; dsimp only at h; omega) (by unfold roomB; simp; omega) (by unfold roomB; simp; omega)).mono ?_
    rintro ⟨v', σ3⟩ ⟨h3, h4⟩
    have hv' : RV 3 v' ((l ++ [c]).map chc) := by have := h3.rv; simpa using this
    have g2 := h2.cells hg
    have g3 := h4.cells g2
    refine ⟨v', σ3, rfl, hv'.cell, g3, fun cs' hcs => ?_⟩
    subst hcs
    have hd3 := St.get_lt g3
    refine ⟨_, v', get_put_self g3, by simp, h.change c hv' ha hb, fun j q1 q2 q3 => ?_, ?_⟩
    · rw [List.getElem?_set_ne (by omega), List.getElem?_set_ne (by omega), List.getElem?_set_ne (by omega)]
    · refine Kept.put (X := (· = o)) ?_ (.inl rfl) hd3 _
      exact h4.keptX (h2.keptX hk (Nat.le_refl _)) (Nat.le_refl _)
  have h1' := h.c1
  have h3' := h.c3
  have h4' := h.c4
  rcases hc with ⟨hc, hc2⟩ | ⟨hc, ht, hn0, hn1⟩ | hc
  · have e1 : (c.k == 1) = true := by simpa using hc
    have s1 : done x c = ⟨true, x.s ++ c.s⟩ := by unfold done; rw [if_pos hc]
    rw [s1] at fin
    have f1 : ((cs.set (off + 1) (.str (x.s ++ c.s))).set (off + 3) (.sc (.bool true)))[off + 4]? = some v := by
      rw [List.getElem?_set_ne (by omega), List.getElem?_set_ne (by omega)]; exact h4'
    have f2 := fin _ _ ((σ.bump.put o (some (.cells (cs.set (off + 1) (.str (x.s ++ c.s)))))).put o (some (.cells ((cs.set (off + 1) (.str (x.s ++ c.s))).set (off + 3) (.sc (.bool true)))))) rfl rfl (Nat.le_succ _) (((Kept.refl (· = o) σ).bump.put (.inl rfl) hdb _).put (.inl rfl) hdb _) (get_put_self (get_put_self gb))
    have sa : aStr .add x.s c.s = some (.str (x.s ++ c.s)) := by simp only [aStr]; rw [if_neg (by omega)]
    simp only [chc] at f2
    simp -implicitDefEqProofs (disch := first | exact nbf rfl | exact nbt rfl | (simp only [ne_eq, reduceCtorEq, not_false_eq_true]; done) | omega | (simp -implicitDefEqProofs only [St.n_push, St.n_put, St.n_bump, List.length_set] <;> omega) | fail) only [Tab.b29, chc, e1, sa, g, h1', h4', f1, l1, l3, l4, aBin, aCallv, aPtrEq, XOp.kind, AOp.run, AO.eval, put, reduceCtorEq, aInt, Nat.reduceEqDiff, initEnv, V.bool, V.i64, resultsOf, AR.get, aExtract, aUn, Int.reduceEq, Int.reduceBEq, Int.reduceBNe, aBox, aLoad, aStore, aPart, aPlace, aArrAddr, aArrIdx, aIdx, aLenStr, aConv, aFold, aMinMax, aEqV, aNilCheck, fillV, aEqBool, aEqInt, aEqStr, Nat.reduceAdd, Nat.reduceLeDiff, Nat.reduceMul, Int.reduceLT, Int.reduceLE, Int.reduceToNat, Int.reduceGT, Int.reduceGE, Int.reduceNeg, Int.reduceAdd, Int.reduceSub, wrap64, chkAdd, effAdd, AOp.kind, chkAll, chkSee, Nat.reduceLT, zP.down, zQ.down]
    repeat (first | refine w_fin ?_ | refine w_seq ?_ | refine w_block ?_ | refine w_reg ?_ | refine w_op ?_ | refine w_dop ?_)
    refine f2.mono ?_
    rintro _ ⟨w, σ2, rfl, g2, hw⟩
    simp -implicitDefEqProofs (disch := first | exact nbf rfl | exact nbt rfl | (simp only [ne_eq, reduceCtorEq, not_false_eq_true]; done) | omega | (simp -implicitDefEqProofs only [St.n_push, St.n_put, St.n_bump, List.length_set] <;> omega) | fail) only [bsl1, aCallv, aPtrEq, XOp.kind, AOp.run, AO.eval, put, reduceCtorEq, aInt, Nat.reduceEqDiff, initEnv, V.bool, V.i64, resultsOf, AR.get, aExtract, aUn, Int.reduceEq, Int.reduceBEq, Int.reduceBNe, aBox, aLoad, aStore, aPart, aPlace, aArrAddr, aArrIdx, aIdx, aLenStr, aConv, aFold, aMinMax, aEqV, aNilCheck, fillV, aEqBool, aEqInt, aEqStr, Nat.reduceAdd, Nat.reduceLeDiff, Nat.reduceMul, Int.reduceLT, Int.reduceLE, Int.reduceToNat, Int.reduceGT, Int.reduceGE, Int.reduceNeg, Int.reduceAdd, Int.reduceSub, wrap64, chkAdd, effAdd, AOp.kind, chkAll, chkSee, Nat.reduceLT, zP.down, zQ.down]
    repeat (first | refine w_fin ?_ | refine w_seq ?_ | refine w_block ?_ | refine w_reg ?_ | refine w_op ?_ | refine w_dop ?_)
    refine hw.mono ?_
    rintro _ ⟨v', σ3, rfl, ⟨k1, k2⟩, g3, hfin⟩
    simp -implicitDefEqProofs (disch := first | exact nbf rfl | exact nbt rfl | (simp only [ne_eq, reduceCtorEq, not_false_eq_true]; done) | omega | (simp -implicitDefEqProofs only [St.n_push, St.n_put, St.n_bump, List.length_set] <;> omega) | fail) only [g3, l4, k1, k2, aCallv, aPtrEq, XOp.kind, AOp.run, AO.eval, put, reduceCtorEq, aInt, Nat.reduceEqDiff, initEnv, V.bool, V.i64, resultsOf, AR.get, aExtract, aUn, Int.reduceEq, Int.reduceBEq, Int.reduceBNe, aBox, aLoad, aStore, aPart, aPlace, aArrAddr, aArrIdx, aIdx, aLenStr, aConv, aFold, aMinMax, aEqV, aNilCheck, fillV, aEqBool, aEqInt, aEqStr, Nat.reduceAdd, Nat.reduceLeDiff, Nat.reduceMul, Int.reduceLT, Int.reduceLE, Int.reduceToNat, Int.reduceGT, Int.reduceGE, Int.reduceNeg, Int.reduceAdd, Int.reduceSub, wrap64, chkAdd, effAdd, AOp.kind, chkAll, chkSee, Nat.reduceLT, zP.down, zQ.down]
    rw [s1]
    exact hfin _ rfl
  · have e1 : (c.k == 1) = false := by simp; omega
    have e2 : (c.k == 2) = true := by simpa using hc
    have s1 : done x c = ⟨true, x.s.take c.n.toNat⟩ := by unfold done; rw [if_neg (by omega), if_pos hc]
    rw [s1] at fin
    have q1 : (0 ≤ c.n ∧ c.n ≤ (x.s.length : Int)) = True := by simp; omega
    have f0 : (cs.set (off + 1) (.str (x.s.take c.n.toNat))).set (off + 3) (.sc (.bool true)) = cs.set (off + 1) (.str (x.s.take c.n.toNat)) := set_same (by rw [List.getElem?_set_ne (by omega), h3', ht])
    have f1 : (cs.set (off + 1) (.str (x.s.take c.n.toNat)))[off + 4]? = some v := by rw [List.getElem?_set_ne (by omega)]; exact h4'
    have f2 := fin (.str (x.s.take c.n.toNat)) (.sc (.bool true)) (σ.bump.put o (some (.cells (cs.set (off + 1) (.str (x.s.take c.n.toNat)))))) rfl rfl (Nat.le_succ _) ((Kept.refl (· = o) σ).bump.put (.inl rfl) hdb _) (by rw [f0]; exact get_put_self gb)
    rw [f0] at f2
    simp only [chc] at f2
    have sl : aSlice (.str x.s) none (some (.sc (.int .i64 c.n))) none = some (.str (x.s.take c.n.toNat)) := by simp [aSlice, aBounds, aBnd, hn0, hn1]
    simp -implicitDefEqProofs (disch := first | exact nbf rfl | exact nbt rfl | (simp only [ne_eq, reduceCtorEq, not_false_eq_true]; done) | omega | (simp -implicitDefEqProofs only [St.n_push, St.n_put, St.n_bump, List.length_set] <;> omega) | fail) only [Tab.b29, chc, e1, e2, g, h1', h4', f1, l1, l3, l4, aBin, sl, aCallv, aPtrEq, XOp.kind, AOp.run, AO.eval, put, reduceCtorEq, aInt, Nat.reduceEqDiff, initEnv, V.bool, V.i64, resultsOf, AR.get, aExtract, aUn, Int.reduceEq, Int.reduceBEq, Int.reduceBNe, aBox, aLoad, aStore, aPart, aPlace, aArrAddr, aArrIdx, aIdx, aLenStr, aConv, aFold, aMinMax, aEqV, aNilCheck, fillV, aEqBool, aEqInt, aEqStr, Nat.reduceAdd, Nat.reduceLeDiff, Nat.reduceMul, Int.reduceLT, Int.reduceLE, Int.reduceToNat, Int.reduceGT, Int.reduceGE, Int.reduceNeg, Int.reduceAdd, Int.reduceSub, wrap64, chkAdd, effAdd, AOp.kind, chkAll, chkSee, Nat.reduceLT, zP.down, zQ.down]
    repeat (first | refine w_fin ?_ | refine w_seq ?_ | refine w_block ?_ | refine w_reg ?_ | refine w_op ?_ | refine w_dop ?_)
    refine f2.mono ?_
    rintro _ ⟨w, σ2, rfl, g2, hw⟩
    simp -implicitDefEqProofs (disch := first | exact nbf rfl | exact nbt rfl | (simp only [ne_eq, reduceCtorEq, not_false_eq_true]; done) | omega | (simp -implicitDefEqProofs only [St.n_push, St.n_put, St.n_bump, List.length_set] <;> omega) | fail) only [bsl1, aCallv, aPtrEq, XOp.kind, AOp.run, AO.eval, put, reduceCtorEq, aInt, Nat.reduceEqDiff, initEnv, V.bool, V.i64, resultsOf, AR.get, aExtract, aUn, Int.reduceEq, Int.reduceBEq, Int.reduceBNe, aBox, aLoad, aStore, aPart, aPlace, aArrAddr, aArrIdx, aIdx, aLenStr, aConv, aFold, aMinMax, aEqV, aNilCheck, fillV, aEqBool, aEqInt, aEqStr, Nat.reduceAdd, Nat.reduceLeDiff, Nat.reduceMul, Int.reduceLT, Int.reduceLE, Int.reduceToNat, Int.reduceGT, Int.reduceGE, Int.reduceNeg, Int.reduceAdd, Int.reduceSub, wrap64, chkAdd, effAdd, AOp.kind, chkAll, chkSee, Nat.reduceLT, zP.down, zQ.down]
    repeat (first | refine w_fin ?_ | refine w_seq ?_ | refine w_block ?_ | refine w_reg ?_ | refine w_op ?_ | refine w_dop ?_)
    refine hw.mono ?_
    rintro _ ⟨v', σ3, rfl, ⟨k1, k2⟩, g3, hfin⟩
    simp -implicitDefEqProofs (disch := first | exact nbf rfl | exact nbt rfl | (simp only [ne_eq, reduceCtorEq, not_false_eq_true]; done) | omega | (simp -implicitDefEqProofs only [St.n_push, St.n_put, St.n_bump, List.length_set] <;> omega) | fail) only [g3, l4, k1, k2, aCallv, aPtrEq, XOp.kind, AOp.run, AO.eval, put, reduceCtorEq, aInt, Nat.reduceEqDiff, initEnv, V.bool, V.i64, resultsOf, AR.get, aExtract, aUn, Int.reduceEq, Int.reduceBEq, Int.reduceBNe, aBox, aLoad, aStore, aPart, aPlace, aArrAddr, aArrIdx, aIdx, aLenStr, aConv, aFold, aMinMax, aEqV, aNilCheck, fillV, aEqBool, aEqInt, aEqStr, Nat.reduceAdd, Nat.reduceLeDiff, Nat.reduceMul, Int.reduceLT, Int.reduceLE, Int.reduceToNat, Int.reduceGT, Int.reduceGE, Int.reduceNeg, Int.reduceAdd, Int.reduceSub, wrap64, chkAdd, effAdd, AOp.kind, chkAll, chkSee, Nat.reduceLT, zP.down, zQ.down]
    rw [s1]
    exact hfin _ rfl
  · have e1 : (c.k == 1) = false := by simp; omega
    have e2 : (c.k == 2) = false := by simp; omega
    have e3 : (c.k == 3) = true := by simpa using hc
    have s1 : done x c = ⟨false, []⟩ := by unfold done; rw [if_neg (by omega), if_neg (by omega)]
    rw [s1] at fin
    have f1 : ((cs.set (off + 1) (.str [])).set (off + 3) (.sc (.bool false)))[off + 4]? = some v := by
      rw [List.getElem?_set_ne (by omega), List.getElem?_set_ne (by omega)]; exact h4'
    have f2 := fin _ _ ((σ.bump.put o (some (.cells (cs.set (off + 1) (.str []))))).put o (some (.cells ((cs.set (off + 1) (.str [])).set (off + 3) (.sc (.bool false)))))) rfl rfl (Nat.le_succ _) (((Kept.refl (· = o) σ).bump.put (.inl rfl) hdb _).put (.inl rfl) hdb _) (get_put_self (get_put_self gb))
    simp only [chc] at f2
    simp -implicitDefEqProofs (disch := first | exact nbf rfl | exact nbt rfl | (simp only [ne_eq, reduceCtorEq, not_false_eq_true]; done) | omega | (simp -implicitDefEqProofs only [St.n_push, St.n_put, St.n_bump, List.length_set] <;> omega) | fail) only [Tab.b29, chc, e1, e2, e3, g, h1', h4', f1, l1, l3, l4, aBin, aCallv, aPtrEq, XOp.kind, AOp.run, AO.eval, put, reduceCtorEq, aInt, Nat.reduceEqDiff, initEnv, V.bool, V.i64, resultsOf, AR.get, aExtract, aUn, Int.reduceEq, Int.reduceBEq, Int.reduceBNe, aBox, aLoad, aStore, aPart, aPlace, aArrAddr, aArrIdx, aIdx, aLenStr, aConv, aFold, aMinMax, aEqV, aNilCheck, fillV, aEqBool, aEqInt, aEqStr, Nat.reduceAdd, Nat.reduceLeDiff, Nat.reduceMul, Int.reduceLT, Int.reduceLE, Int.reduceToNat, Int.reduceGT, Int.reduceGE, Int.reduceNeg, Int.reduceAdd, Int.reduceSub, wrap64, chkAdd, effAdd, AOp.kind, chkAll, chkSee, Nat.reduceLT, zP.down, zQ.down]
    repeat (first | refine w_fin ?_ | refine w_seq ?_ | refine w_block ?_ | refine w_reg ?_ | refine w_op ?_ | refine w_dop ?_)
    refine f2.mono ?_
    rintro _ ⟨w, σ2, rfl, g2, hw⟩
    simp -implicitDefEqProofs (disch := first | exact nbf rfl | exact nbt rfl | (simp only [ne_eq, reduceCtorEq, not_false_eq_true]; done) | omega | (simp -implicitDefEqProofs only [St.n_push, St.n_put, St.n_bump, List.length_set] <;> omega) | fail) only [bsl1, aCallv, aPtrEq, XOp.kind, AOp.run, AO.eval, put, reduceCtorEq, aInt, Nat.reduceEqDiff, initEnv, V.bool, V.i64, resultsOf, AR.get, aExtract, aUn, Int.reduceEq, Int.reduceBEq, Int.reduceBNe, aBox, aLoad, aStore, aPart, aPlace, aArrAddr, aArrIdx, aIdx, aLenStr, aConv, aFold, aMinMax, aEqV, aNilCheck, fillV, aEqBool, aEqInt, aEqStr, Nat.reduceAdd, Nat.reduceLeDiff, Nat.reduceMul, Int.reduceLT, Int.reduceLE, Int.reduceToNat, Int.reduceGT, Int.reduceGE, Int.reduceNeg, Int.reduceAdd, Int.reduceSub, wrap64, chkAdd, effAdd, AOp.kind, chkAll, chkSee, Nat.reduceLT, zP.down, zQ.down]
    repeat (first | refine w_fin ?_ | refine w_seq ?_ | refine w_block ?_ | refine w_reg ?_ | refine w_op ?_ | refine w_dop ?_)
    refine hw.mono ?_
    rintro _ ⟨v', σ3, rfl, ⟨k1, k2⟩, g3, hfin⟩
    simp -implicitDefEqProofs (disch := first | exact nbf rfl | exact nbt rfl | (simp only [ne_eq, reduceCtorEq, not_false_eq_true]; done) | omega | (simp -implicitDefEqProofs only [St.n_push, St.n_put, St.n_bump, List.length_set] <;> omega) | fail) only [g3, l4, k1, k2, aCallv, aPtrEq, XOp.kind, AOp.run, AO.eval, put, reduceCtorEq, aInt, Nat.reduceEqDiff, initEnv, V.bool, V.i64, resultsOf, AR.get, aExtract, aUn, Int.reduceEq, Int.reduceBEq, Int.reduceBNe, aBox, aLoad, aStore, aPart, aPlace, aArrAddr, aArrIdx, aIdx, aLenStr, aConv, aFold, aMinMax, aEqV, aNilCheck, fillV, aEqBool, aEqInt, aEqStr, Nat.reduceAdd, Nat.reduceLeDiff, Nat.reduceMul, Int.reduceLT, Int.reduceLE, Int.reduceToNat, Int.reduceGT, Int.reduceGE, Int.reduceNeg, Int.reduceAdd, Int.reduceSub, wrap64, chkAdd, effAdd, AOp.kind, chkAll, chkSee, Nat.reduceLT, zP.down, zQ.down]
    rw [s1]
    exact hfin _ rfl
end Go.Proofs.Ytkdfahmlcnbadaa.dk
