/-
  Files: the program's functions.
-/
import Derived.Test.YtkdfahmlcnbadaaDiskM
namespace Go.Proofs.Ytkdfahmlcnbadaa.dk
open Go.Ab
set_option maxRecDepth 100000
set_option maxHeartbeats 8000000
set_option linter.unusedSimpArgs false
set_option linter.unusedVariables false

def chc (c : Ch) : List V := [.sc (.int .i64 c.k), .str c.s, .sc (.int .i64 c.n)]
def fcell (F : FM) (v : V) : List V := [.str F.sure.s, .str F.seen.s, .sc (.bool F.sure.there), .sc (.bool F.seen.there), v]
/-- A file's cells, in an object. -/
structure FC (cs : List V) (off : Nat) (F : FM) (v : V) : Prop where
  rv : RV 3 v (F.loose.map chc)
  c0 : cs[off]? = some (.str F.sure.s)
  c1 : cs[off + 1]? = some (.str F.seen.s)
  c2 : cs[off + 2]? = some (.sc (.bool F.sure.there))
  c3 : cs[off + 3]? = some (.sc (.bool F.seen.there))
  c4 : cs[off + 4]? = some v
theorem FC.len {cs : List V} {off : Nat} {F : FM} {v : V} (h : FC cs off F v) : off + 5 ≤ cs.length := by
  have := (List.getElem?_eq_some_iff.1 h.c4).1; omega
theorem FC.take {cs : List V} {off : Nat} {F : FM} {v : V} (h : FC cs off F v) : (cs.drop off).take 5 = fcell F v := by
  have := take_cells (cs := cs) (es := fcell F v) (k := off) (fun i hi => by
    have hi : i < 5 := hi
    have : i = 0 ∨ i = 1 ∨ i = 2 ∨ i = 3 ∨ i = 4 := by omega
    rcases this with rfl | rfl | rfl | rfl | rfl
    · exact h.c0
    · exact h.c1
    · exact h.c2
    · exact h.c3
    · exact h.c4) (.inl h.len)
  exact this
structure DC (cs : List V) (M : DM) : Prop where
  len : cs.length = 162
  p : cs[160]? = some (.sc (.int .i64 M.power))
  o : cs[161]? = some (.sc (.int .i64 M.ops))
  f : ∀ i, i < 32 → ∃ v, FC cs (i * 5) (M.f i) v
/-- A disk at d. -/
def DR (σ : St) (d : Nat) (M : DM) : Prop := ∃ cs, σ.get d = some (.cells cs) ∧ DC cs M
theorem DR.kept {X : Nat → Prop} {σ σ' : St} {d : Nat} {M : DM} (h : DR σ d M) (k : Kept X σ σ') (hx : ¬ X d) : DR σ' d M := by
  obtain ⟨cs, h1, h2⟩ := h; exact ⟨cs, k.get _ _ hx h1, h2⟩
theorem DR.lt {σ : St} {d : Nat} {M : DM} (h : DR σ d M) : d < σ.n := by obtain ⟨cs, h1, _⟩ := h; exact St.get_lt h1
def DM.file (M : DM) (f : Int) : FM := if 0 ≤ f ∧ f < 32 then M.f f.toNat else F0
theorem file_seen (M : DM) (f : Int) : (M.file f).seen = M.see f := by
  unfold DM.file DM.see
  split <;> rfl
theorem file_in (M : DM) {i : Nat} (h : i < 32) : M.file i = M.f i := by
  have h2 : (0 : Int) ≤ i ∧ (i : Int) < 32 := by omega
  unfold DM.file
  rw [if_pos h2, Int.toNat_natCast]

theorem new_ok (k : Nat) (ys : YlF) (σ : St) : W (callY Tab.tb (k + 1) ys 9 [] σ) fun r => r.1 = .ptr σ.n 0 ∧ DR r.2 σ.n D0 ∧ Kept noX σ r.2 ∧ r.2.n = σ.n + 1 := by
  rw [s_call (af := Tab.b9) rfl (Nat.le_of_ble_eq_true rfl)]
  generalize callY Tab.tb k = cy
  simp -implicitDefEqProofs (disch := first | exact nbf rfl | exact nbt rfl | (simp only [ne_eq, reduceCtorEq, not_false_eq_true]; done) | omega | (simp -implicitDefEqProofs only [St.n_push, St.n_put, St.n_bump, List.length_set] <;> omega) | fail) only [Tab.b9, aCallv, aPtrEq, XOp.kind, AOp.run, AO.eval, put, reduceCtorEq, aInt, Nat.reduceEqDiff, initEnv, V.bool, V.i64, resultsOf, AR.get, aExtract, aUn, Int.reduceEq, Int.reduceBEq, Int.reduceBNe, aBox, aLoad, aStore, aPart, aPlace, aArrAddr, aArrIdx, aIdx, aLenStr, aConv, aFold, aMinMax, aEqV, aNilCheck, fillV, aEqBool, aEqInt, aEqStr, Nat.reduceAdd, Nat.reduceLeDiff, Nat.reduceMul, Int.reduceLT, Int.reduceLE, Int.reduceToNat, Int.reduceGT, Int.reduceGE, Int.reduceNeg, Int.reduceAdd, Int.reduceSub, wrap64, chkAdd, effAdd, AOp.kind, chkAll, chkSee, Nat.reduceLT, zP.down, zQ.down]
  refine ⟨⟨_, get_push_self, ⟨rfl, rfl, rfl, fun i hi => ⟨.sc .nilS, .nil, ?_, ?_, ?_, ?_, ?_⟩⟩⟩, ?_⟩
  all_goals first
    | (((repeat (first | refine Kept.push ?_ _ | refine Kept.bump ?_ | refine Kept.put ?_ (.inr (by omega)) (by first | omega | (simp only [St.n_put, St.n_push]; omega)) _)); first | exact Kept.refl _ _ | assumption); done)
    | (have : i = 0 ∨ i = 1 ∨ i = 2 ∨ i = 3 ∨ i = 4 ∨ i = 5 ∨ i = 6 ∨ i = 7 ∨ i = 8 ∨ i = 9 ∨ i = 10 ∨ i = 11 ∨ i = 12 ∨ i = 13 ∨ i = 14 ∨ i = 15 ∨ i = 16 ∨ i = 17 ∨ i = 18 ∨ i = 19 ∨ i = 20 ∨ i = 21 ∨ i = 22 ∨ i = 23 ∨ i = 24 ∨ i = 25 ∨ i = 26 ∨ i = 27 ∨ i = 28 ∨ i = 29 ∨ i = 30 ∨ i = 31 := by omega
       rcases this with rfl | rfl | rfl | rfl | rfl | rfl | rfl | rfl | rfl | rfl | rfl | rfl | rfl | rfl | rfl | rfl | rfl | rfl | rfl | rfl | rfl | rfl | rfl | rfl | rfl | rfl | rfl | rfl | rfl | rfl | rfl | rfl <;> rfl)

theorem pnil (σ : St) (d : Nat) : aEqV σ .ptr (.ptr d 0) (.sc .nilP) = some false := rfl
theorem slnil (σ : St) {v : V} {es : List (List V)} (h : RV 3 v es) : ∃ b, aEqV σ .slice v (.sc .nilS) = some b ∧ (b = true → es = []) := by
  cases h with
  | nil => exact ⟨true, rfl, fun _ => rfl⟩
  | odd => exact ⟨false, by simp [aEqV, aNilness, isSl], fun h => by cases h⟩
  | vs => exact ⟨false, rfl, fun h => by cases h⟩

theorem seen_ok (k : Nat) (ys : YlF) (σ : St) (d : Nat) (M : DM) (f : Int) (h : DR σ d M) :
    ∃ v, RV 3 v ((M.file f).loose.map chc) ∧ callY Tab.tb (k + 1) ys 27 [.ptr d 0, .sc (.int .i64 f)] σ = some (.tup [.agg (fcell (M.file f) v), .sc (.bool (M.file f).seen.there)], σ.bump) := by
  obtain ⟨cs, g, hc⟩ := h
  rw [s_call (af := Tab.b27) rfl (Nat.le_of_ble_eq_true rfl)]
  generalize callY Tab.tb k = cy
  by_cases hf : 0 ≤ f ∧ f < 32
  · obtain ⟨i, rfl⟩ := Int.eq_ofNat_of_zero_le hf.1
    have hi : i < 32 := by omega
    obtain ⟨v, hv⟩ := hc.f i hi
    have e1 : M.file (i : Int) = M.f i := file_in M hi
    have c1 : decide ((i : Int) < 0) = false := by simp only [decide_eq_false_iff_not]; omega
    have c2 : decide ((i : Int) ≥ 32) = false := by simp only [decide_eq_false_iff_not]; omega
    have ha := arr_ok (o := d) (off := 0) (len := 32) (sz := 5) hi
    have l1 : (i * 5 + 5 ≤ cs.length) = True := by simp only [eq_iff_iff, iff_true]; exact hv.len
    have t1 := hv.take
    have c3 := hv.c3
    refine ⟨v, by rw [e1]; exact hv.rv, ?_⟩
    have hcell := hv.rv.cell
    rw [e1]
    simp -implicitDefEqProofs (disch := first | exact nbf rfl | exact nbt rfl | (simp only [ne_eq, reduceCtorEq, not_false_eq_true]; done) | omega | (simp -implicitDefEqProofs only [St.n_push, St.n_put, St.n_bump, List.length_set] <;> omega) | fail) only [Tab.b27, pnil, c1, c2, ha, g, l1, t1, c3, fcell, hcell.1, hcell.2, aCallv, aPtrEq, XOp.kind, AOp.run, AO.eval, put, reduceCtorEq, aInt, Nat.reduceEqDiff, initEnv, V.bool, V.i64, resultsOf, AR.get, aExtract, aUn, Int.reduceEq, Int.reduceBEq, Int.reduceBNe, aBox, aLoad, aStore, aPart, aPlace, aArrIdx, aIdx, aLenStr, aConv, aFold, aMinMax, aNilCheck, fillV, aEqBool, aEqInt, aEqStr, Nat.reduceAdd, Nat.reduceLeDiff, Nat.reduceMul, Int.reduceLT, Int.reduceLE, Int.reduceToNat, Int.reduceGT, Int.reduceGE, Int.reduceNeg, Int.reduceAdd, Int.reduceSub, wrap64, chkAdd, effAdd, AOp.kind, chkAll, chkSee, Nat.reduceLT, zP.down, zQ.down]
  · have e1 : M.file f = F0 := by unfold DM.file; rw [if_neg hf]
    refine ⟨.sc .nilS, by rw [e1]; exact .nil, ?_⟩
    rw [e1]
    by_cases h0 : f < 0
    · have c1 : decide (f < 0) = true := by simpa using h0
      simp -implicitDefEqProofs (disch := first | exact nbf rfl | exact nbt rfl | (simp only [ne_eq, reduceCtorEq, not_false_eq_true]; done) | omega | (simp -implicitDefEqProofs only [St.n_push, St.n_put, St.n_bump, List.length_set] <;> omega) | fail) only [Tab.b27, pnil, c1, fcell, aCallv, aPtrEq, XOp.kind, AOp.run, AO.eval, put, reduceCtorEq, aInt, Nat.reduceEqDiff, initEnv, V.bool, V.i64, resultsOf, AR.get, aExtract, aUn, Int.reduceEq, Int.reduceBEq, Int.reduceBNe, aBox, aLoad, aStore, aPart, aPlace, aArrAddr, aArrIdx, aIdx, aLenStr, aConv, aFold, aMinMax, aNilCheck, fillV, aEqBool, aEqInt, aEqStr, Nat.reduceAdd, Nat.reduceLeDiff, Nat.reduceMul, Int.reduceLT, Int.reduceLE, Int.reduceToNat, Int.reduceGT, Int.reduceGE, Int.reduceNeg, Int.reduceAdd, Int.reduceSub, wrap64, chkAdd, effAdd, AOp.kind, chkAll, chkSee, Nat.reduceLT, zP.down, zQ.down]
      rfl
    · have c1 : decide (f < 0) = false := by simpa using h0
      have c2 : decide (f ≥ 32) = true := by simp only [decide_eq_true_eq]; omega
      simp -implicitDefEqProofs (disch := first | exact nbf rfl | exact nbt rfl | (simp only [ne_eq, reduceCtorEq, not_false_eq_true]; done) | omega | (simp -implicitDefEqProofs only [St.n_push, St.n_put, St.n_bump, List.length_set] <;> omega) | fail) only [Tab.b27, pnil, c1, c2, fcell, aCallv, aPtrEq, XOp.kind, AOp.run, AO.eval, put, reduceCtorEq, aInt, Nat.reduceEqDiff, initEnv, V.bool, V.i64, resultsOf, AR.get, aExtract, aUn, Int.reduceEq, Int.reduceBEq, Int.reduceBNe, aBox, aLoad, aStore, aPart, aPlace, aArrAddr, aArrIdx, aIdx, aLenStr, aConv, aFold, aMinMax, aNilCheck, fillV, aEqBool, aEqInt, aEqStr, Nat.reduceAdd, Nat.reduceLeDiff, Nat.reduceMul, Int.reduceLT, Int.reduceLE, Int.reduceToNat, Int.reduceGT, Int.reduceGE, Int.reduceNeg, Int.reduceAdd, Int.reduceSub, wrap64, chkAdd, effAdd, AOp.kind, chkAll, chkSee, Nat.reduceLT, zP.down, zQ.down]
      rfl

/-- Power, steps: only they turn. -/
theorem DC.step {cs : List V} {M : DM} (h : DC cs M) (p o : Int) : DC ((cs.set 160 (.sc (.int .i64 p))).set 161 (.sc (.int .i64 o))) { M with power := p, ops := o } := by
  have hl := h.len
  refine ⟨by simp [hl], ?_, ?_, fun i hi => ?_⟩
  · rw [List.getElem?_set_ne (by omega), set_self (by omega)]
  · rw [set_self (by simp; omega)]
  · obtain ⟨v, hv⟩ := h.f i hi
    have key : ∀ j, j < 160 → ((cs.set 160 (.sc (.int .i64 p))).set 161 (.sc (.int .i64 o)))[j]? = cs[j]? := fun j hj => by
      rw [List.getElem?_set_ne (by omega), List.getElem?_set_ne (by omega)]
    exact ⟨v, hv.rv, by rw [key _ (by omega)]; exact hv.c0, by rw [key _ (by omega)]; exact hv.c1, by rw [key _ (by omega)]; exact hv.c2, by rw [key _ (by omega)]; exact hv.c3, by rw [key _ (by omega)]; exact hv.c4⟩
theorem set_same {cs : List V} {k : Nat} {x : V} (h : cs[k]? = some x) : cs.set k x = cs := by
  refine List.ext_getElem? fun i => ?_
  by_cases hk : i = k
  · subst hk; rw [set_self (List.getElem?_eq_some_iff.1 h).1, h]
  · rw [List.getElem?_set_ne (fun hq => hk hq.symm)]
theorem DC.ops {cs : List V} {M : DM} (h : DC cs M) (o : Int) : DC (cs.set 161 (.sc (.int .i64 o))) { M with ops := o } := by
  have := h.step M.power o
  rwa [set_same h.p] at this
theorem DC.power {cs : List V} {M : DM} (h : DC cs M) (p : Int) : DC (cs.set 160 (.sc (.int .i64 p))) { M with power := p } := by
  have := h.step p M.ops
  rwa [set_same (by rw [List.getElem?_set_ne (by omega)]; exact h.o)] at this

theorem step_ok (k : Nat) (ys : YlF) (σ : St) (d : Nat) (M : DM) (f e : Int) (h : DR σ d M) {B : Nat} (hm : M.Ok B) (hB : B ≤ 1000000) :
    W (callY Tab.tb (k + 1) ys 28 [.ptr d 0, .sc (.int .i64 f), .sc (.int .i64 e)] σ) fun r => r.1 = .sc (.int .i64 (M.step f e).2) ∧ DR r.2 d (M.step f e).1 ∧ Kept (· = d) σ r.2 ∧ r.2.n = σ.n := by
  obtain ⟨cs, g, hc⟩ := h
  rw [s_call (af := Tab.b28) rfl (Nat.le_of_ble_eq_true rfl)]
  generalize callY Tab.tb k = cy
  have hp := hc.p
  have ho := hc.o
  have hl := hc.len
  have hd := St.get_lt g
  unfold DM.step
  by_cases h0 : M.power = 0
  · have c1 : (M.power == 0) = true := by simpa using h0
    simp -implicitDefEqProofs (disch := first | exact nbf rfl | exact nbt rfl | (simp only [ne_eq, reduceCtorEq, not_false_eq_true]; done) | omega | (simp -implicitDefEqProofs only [St.n_push, St.n_put, St.n_bump, List.length_set] <;> omega) | fail) only [Tab.b28, pnil, g, hp, c1, h0, aCallv, aPtrEq, XOp.kind, AOp.run, AO.eval, put, reduceCtorEq, aInt, Nat.reduceEqDiff, initEnv, V.bool, V.i64, resultsOf, AR.get, aExtract, aUn, Int.reduceEq, Int.reduceBEq, Int.reduceBNe, aBox, aLoad, aStore, aPart, aPlace, aArrAddr, aArrIdx, aIdx, aLenStr, aConv, aFold, aMinMax, aNilCheck, fillV, aEqBool, aEqInt, aEqStr, Nat.reduceAdd, Nat.reduceLeDiff, Nat.reduceMul, Int.reduceLT, Int.reduceLE, Int.reduceToNat, Int.reduceGT, Int.reduceGE, Int.reduceNeg, Int.reduceAdd, Int.reduceSub, wrap64, chkAdd, effAdd, AOp.kind, chkAll, chkSee, Nat.reduceLT, zP.down, zQ.down]
    exact ⟨⟨cs, g, hc⟩, Kept.refl _ _⟩
  have c1 : (M.power == 0) = false := by simpa using h0
  by_cases h1 : f < 0
  · have c2 : decide (f < 0) = true := by simpa using h1
    simp -implicitDefEqProofs (disch := first | exact nbf rfl | exact nbt rfl | (simp only [ne_eq, reduceCtorEq, not_false_eq_true]; done) | omega | (simp -implicitDefEqProofs only [St.n_push, St.n_put, St.n_bump, List.length_set] <;> omega) | fail) only [Tab.b28, pnil, g, hp, c1, h0, c2, h1, true_or, aCallv, aPtrEq, XOp.kind, AOp.run, AO.eval, put, reduceCtorEq, aInt, Nat.reduceEqDiff, initEnv, V.bool, V.i64, resultsOf, AR.get, aExtract, aUn, Int.reduceEq, Int.reduceBEq, Int.reduceBNe, aBox, aLoad, aStore, aPart, aPlace, aArrAddr, aArrIdx, aIdx, aLenStr, aConv, aFold, aMinMax, aNilCheck, fillV, aEqBool, aEqInt, aEqStr, Nat.reduceAdd, Nat.reduceLeDiff, Nat.reduceMul, Int.reduceLT, Int.reduceLE, Int.reduceToNat, Int.reduceGT, Int.reduceGE, Int.reduceNeg, Int.reduceAdd, Int.reduceSub, wrap64, chkAdd, effAdd, AOp.kind, chkAll, chkSee, Nat.reduceLT, zP.down, zQ.down]
    exact ⟨⟨cs, g, hc⟩, Kept.refl _ _⟩
  have c2 : decide (f < 0) = false := by simpa using h1
  by_cases h2 : 32 ≤ f
  · have c3 : decide (f ≥ 32) = true := by simpa using h2
    simp -implicitDefEqProofs (disch := first | exact nbf rfl | exact nbt rfl | (simp only [ne_eq, reduceCtorEq, not_false_eq_true]; done) | omega | (simp -implicitDefEqProofs only [St.n_push, St.n_put, St.n_bump, List.length_set] <;> omega) | fail) only [Tab.b28, pnil, g, hp, c1, h0, c2, c3, h1, h2, or_true, aCallv, aPtrEq, XOp.kind, AOp.run, AO.eval, put, reduceCtorEq, aInt, Nat.reduceEqDiff, initEnv, V.bool, V.i64, resultsOf, AR.get, aExtract, aUn, Int.reduceEq, Int.reduceBEq, Int.reduceBNe, aBox, aLoad, aStore, aPart, aPlace, aArrAddr, aArrIdx, aIdx, aLenStr, aConv, aFold, aMinMax, aNilCheck, fillV, aEqBool, aEqInt, aEqStr, Nat.reduceAdd, Nat.reduceLeDiff, Nat.reduceMul, Int.reduceLT, Int.reduceLE, Int.reduceToNat, Int.reduceGT, Int.reduceGE, Int.reduceNeg, Int.reduceAdd, Int.reduceSub, wrap64, chkAdd, effAdd, AOp.kind, chkAll, chkSee, Nat.reduceLT, zP.down, zQ.down]
    exact ⟨⟨cs, g, hc⟩, Kept.refl _ _⟩
  have c3 : decide (f ≥ 32) = false := by simpa using h2
  by_cases h3 : e = 0
  · subst h3
    have o0 := hm.o0
    have o1 := hm.o1
    have p1 := hm.p1
    have l0 : (160 + 1 ≤ cs.length) = True := by simp only [eq_iff_iff, iff_true]; omega
    have l1 : (161 + 1 ≤ cs.length) = True := by simp only [eq_iff_iff, iff_true]; omega
    have l2 : 160 < cs.length := by omega
    have l3 : 161 < cs.length := by omega
    have w1 : IntKind.i64.wrap (M.ops + 1) = M.ops + 1 := wrap64 (by omega) (by omega)
    by_cases h4 : 0 < M.power
    · have c4 : decide (M.power > 0) = true := by simpa using h4
      have w2 : IntKind.i64.wrap (M.power - 1) = M.power - 1 := wrap64 (by omega) (by omega)
      have ho' : (cs.set 160 (.sc (.int .i64 (M.power - 1))))[161]? = some (.sc (.int .i64 M.ops)) := by rw [List.getElem?_set_ne (by omega)]; exact ho
      simp -implicitDefEqProofs (disch := first | exact nbf rfl | exact nbt rfl | (simp only [ne_eq, reduceCtorEq, not_false_eq_true]; done) | omega | (simp -implicitDefEqProofs only [St.n_push, St.n_put, St.n_bump, List.length_set] <;> omega) | fail) only [Tab.b28, pnil, g, hp, ho, ho', c1, h0, c2, c3, c4, h1, h2, h4, or_self, l0, l1, w1, w2, aCallv, aPtrEq, XOp.kind, AOp.run, AO.eval, put, reduceCtorEq, aInt, Nat.reduceEqDiff, initEnv, V.bool, V.i64, resultsOf, AR.get, aExtract, aUn, Int.reduceEq, Int.reduceBEq, Int.reduceBNe, aBox, aLoad, aStore, aPart, aPlace, aArrAddr, aArrIdx, aIdx, aLenStr, aConv, aFold, aMinMax, aNilCheck, fillV, aEqBool, aEqInt, aEqStr, Nat.reduceAdd, Nat.reduceLeDiff, Nat.reduceMul, Int.reduceLT, Int.reduceLE, Int.reduceToNat, Int.reduceGT, Int.reduceGE, Int.reduceNeg, Int.reduceAdd, Int.reduceSub, wrap64, chkAdd, effAdd, AOp.kind, chkAll, chkSee, Nat.reduceLT, zP.down, zQ.down]
      exact ⟨⟨_, get_put_self (get_put_self g), hc.step _ _⟩, ((Kept.refl (· = d) σ).put (.inl rfl) hd _).put (.inl rfl) hd _⟩
    · have c4 : decide (M.power > 0) = false := by simpa using h4
      simp -implicitDefEqProofs (disch := first | exact nbf rfl | exact nbt rfl | (simp only [ne_eq, reduceCtorEq, not_false_eq_true]; done) | omega | (simp -implicitDefEqProofs only [St.n_push, St.n_put, St.n_bump, List.length_set] <;> omega) | fail) only [Tab.b28, pnil, g, hp, ho, c1, h0, c2, c3, c4, h1, h2, h4, or_self, l0, l1, w1, aCallv, aPtrEq, XOp.kind, AOp.run, AO.eval, put, reduceCtorEq, aInt, Nat.reduceEqDiff, initEnv, V.bool, V.i64, resultsOf, AR.get, aExtract, aUn, Int.reduceEq, Int.reduceBEq, Int.reduceBNe, aBox, aLoad, aStore, aPart, aPlace, aArrAddr, aArrIdx, aIdx, aLenStr, aConv, aFold, aMinMax, aNilCheck, fillV, aEqBool, aEqInt, aEqStr, Nat.reduceAdd, Nat.reduceLeDiff, Nat.reduceMul, Int.reduceLT, Int.reduceLE, Int.reduceToNat, Int.reduceGT, Int.reduceGE, Int.reduceNeg, Int.reduceAdd, Int.reduceSub, wrap64, chkAdd, effAdd, AOp.kind, chkAll, chkSee, Nat.reduceLT, zP.down, zQ.down]
      exact ⟨⟨_, get_put_self g, hc.ops _⟩, (Kept.refl (· = d) σ).put (.inl rfl) hd _⟩
  · have c4 : (e != 0) = true := by simpa using h3
    simp -implicitDefEqProofs (disch := first | exact nbf rfl | exact nbt rfl | (simp only [ne_eq, reduceCtorEq, not_false_eq_true]; done) | omega | (simp -implicitDefEqProofs only [St.n_push, St.n_put, St.n_bump, List.length_set] <;> omega) | fail) only [Tab.b28, pnil, g, hp, c1, h0, c2, c3, c4, h1, h2, h3, or_self, aCallv, aPtrEq, XOp.kind, AOp.run, AO.eval, put, reduceCtorEq, aInt, Nat.reduceEqDiff, initEnv, V.bool, V.i64, resultsOf, AR.get, aExtract, aUn, Int.reduceEq, Int.reduceBEq, Int.reduceBNe, aBox, aLoad, aStore, aPart, aPlace, aArrAddr, aArrIdx, aIdx, aLenStr, aConv, aFold, aMinMax, aNilCheck, fillV, aEqBool, aEqInt, aEqStr, Nat.reduceAdd, Nat.reduceLeDiff, Nat.reduceMul, Int.reduceLT, Int.reduceLE, Int.reduceToNat, Int.reduceGT, Int.reduceGE, Int.reduceNeg, Int.reduceAdd, Int.reduceSub, wrap64, chkAdd, effAdd, AOp.kind, chkAll, chkSee, Nat.reduceLT, zP.down, zQ.down]
    exact ⟨⟨cs, g, hc⟩, Kept.refl _ _⟩
end Go.Proofs.Ytkdfahmlcnbadaa.dk
