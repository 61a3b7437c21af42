/-
  Snapshots in pieces: an inbox, the program's and the document's.
-/
import Derived.Test.YtjcobnjnjliehaaAbB
import Derived.Test.YtjcobnjnjliehaaAbI
import Derived.Test.YtjcobnjnjliehaaAbC
namespace Go.Proofs.Ytjcobnjnjliehaa.sn
open Go.Ab
set_option maxRecDepth 100000
set_option maxHeartbeats 8000000
set_option linter.unusedSimpArgs false
set_option linter.unusedVariables false

/-- A message. -/
structure Ms where
  k : Int
  fr : Int
  to : Int
  te : Int
  ix : Int
  lt : Int
  co : Int
  st : Int
  gd : Bool
  en : V
  at' : Int
  tot : Int
  dat : List UInt8
  talk : Int
  f1 : Int
  f2 : Int
  sq : Int
  cl : Int
  rq : Int
  op : Int
  er : Int
  le : Int
def mc (m : Ms) : List V := [.sc (.int .u8 m.k), .sc (.int .i64 m.fr), .sc (.int .i64 m.to), .sc (.int .i64 m.te), .sc (.int .i64 m.ix), .sc (.int .i64 m.lt), .sc (.int .i64 m.co), .sc (.int .i64 m.st), .sc (.bool m.gd), m.en, .sc (.int .i64 m.at'), .sc (.int .i64 m.tot), .str m.dat, .sc (.int .i64 m.talk), .sc (.int .i64 m.f1), .sc (.int .i64 m.f2), .sc (.int .i64 m.sq), .sc (.int .i64 m.cl), .sc (.int .i64 m.rq), .sc (.int .u8 m.op), .sc (.int .i64 m.er), .sc (.int .i64 m.le)]
/-- An inbox. -/
structure IB where
  i : Int
  t : Int
  tot : Int
  tx : List UInt8
def I0 : IB := ⟨0, 0, 0, []⟩
structure IB.Ok (x : IB) : Prop where
  le : x.tx.length ≤ x.tot
  hi : x.tot ≤ 262144
theorem I0.ok : I0.Ok := ⟨by decide, by decide⟩
def ibad (m : Ms) : Prop := m.tot < 0 ∨ m.tot > 262144 ∨ m.at' < 0 ∨ m.ix < 1
instance (m : Ms) : Decidable (ibad m) := by unfold ibad; infer_instance
def inew (x : IB) (m : Ms) : IB := if m.ix = x.i ∧ m.lt = x.t ∧ m.tot = x.tot then x else ⟨m.ix, m.lt, m.tot, []⟩
def iadd (x : IB) (m : Ms) : IB := if m.at' = x.tx.length ∧ m.dat.length ≤ x.tot - x.tx.length then { x with tx := x.tx ++ m.dat } else x
def itell (x : IB) : Int × List UInt8 × Bool := if (x.tx.length : Int) < x.tot then (x.tx.length, [], false) else (x.tot, x.tx, true)
def iput (x : IB) (m : Ms) : IB := if ibad m then x else iadd (inew x m) m
def iout (x : IB) (m : Ms) : Int × List UInt8 × Bool := if ibad m then (0, [], false) else itell (iput x m)
theorem inew_ok {x : IB} (h : x.Ok) {m : Ms} (hm : ¬ ibad m) : (inew x m).Ok := by
  unfold ibad at hm
  unfold inew
  split
  · exact h
  · exact ⟨by simp; omega, by simp; omega⟩
theorem iadd_ok {x : IB} (h : x.Ok) {m : Ms} : (iadd x m).Ok := by
  unfold iadd
  split
  · rename_i hq
    exact ⟨by simp only [List.length_append]; omega, h.hi⟩
  · exact h
theorem iput_ok {x : IB} (h : x.Ok) (m : Ms) : (iput x m).Ok := by
  unfold iput
  split
  · exact h
  · rename_i hq; exact iadd_ok (inew_ok h hq)
def ot (r : Int × List UInt8 × Bool) : V := .tup [.sc (.int .i64 r.1), .str r.2.1, .sc (.bool r.2.2)]

/-- The program's inbox at n. -/
def IR (lo : Nat) (σ : St) (n : Nat) (x : IB) : Prop := ∃ v, σ.get n = some (.cells [.sc (.int .i64 x.i), .sc (.int .i64 x.t), .sc (.int .i64 x.tot), v]) ∧ Ow lo σ 1 v (x.tx.map bc)
theorem pnil (σ : St) (n : Nat) : aEqV σ .ptr (.ptr n 0) (.sc .nilP) = some false := rfl
abbrev q2 : EqT := .struct [(0, none, .int .i64), (1, none, .int .i64)]
theorem eq2 (σ : St) (a b c d : Int) : aEqV σ q2 (.agg [.sc (.int .i64 a), .sc (.int .i64 b)]) (.agg [.sc (.int .i64 c), .sc (.int .i64 d)]) = some (a == c && b == d) := by
  simp [aEqV, aEqFs, aPart, aEqInt]

theorem put_ok (k : Nat) (ys : YlF) (σ : St) (n lo : Nat) (x : IB) (m : Ms) (h : IR lo σ n x) (hx : x.Ok) (hen : Cell1 m.en) (hlo : lo ≤ σ.n) (hn : n < lo) (hd : m.dat.length ≤ 1000000) :
    W (callY Tab.tb (k + 1) ys 11 [.ptr n 0, .agg (mc m)] σ) fun r => r.1 = ot (iout x m) ∧ IR lo r.2 n (iput x m) ∧ (∀ o y, σ.get o = some y → o ≠ n → o < lo → r.2.get o = some y) ∧ σ.n ≤ r.2.n := by
  rw [s_call (af := Tab.b11) rfl (Nat.le_of_ble_eq_true rfl)]
  generalize callY Tab.tb k = cy
  obtain ⟨v, g, how⟩ := h
  have e1 := hen.1
  have e2 := hen.2
  have gl := St.get_lt g
  by_cases hb : ibad m
  · have hb' := hb
    unfold ibad at hb'
    have out : iout x m = (0, [], false) := by unfold iout; rw [if_pos hb]
    have pin : iput x m = x := by unfold iput; rw [if_pos hb]
    rw [out, pin]
    by_cases c1 : m.tot < 0
    · have d1 : decide (m.tot < 0) = true := by simpa using c1
      simp -implicitDefEqProofs (disch := first | exact nbf rfl | exact nbt rfl | (simp only [ne_eq, reduceCtorEq, not_false_eq_true]; done) | omega | (simp -implicitDefEqProofs only [St.n_push, St.n_put, St.n_bump, List.length_set] <;> omega) | fail) only [Tab.b11, mc, e1, e2, pnil, d1, ot, aCallv, aPtrEq, XOp.kind, AOp.run, AO.eval, put, reduceCtorEq, aInt, Nat.reduceEqDiff, initEnv, V.bool, V.i64, resultsOf, AR.get, aExtract, aUn, Int.reduceEq, Int.reduceBEq, Int.reduceBNe, aBox, aLoad, aStore, aPart, aPlace, aArrAddr, aArrIdx, aIdx, aLenStr, aConv, aFold, aMinMax, aNilCheck, fillV, aEqBool, aEqInt, aEqStr, Nat.reduceAdd, Nat.reduceLeDiff, Nat.reduceMul, Int.reduceLT, Int.reduceLE, Int.reduceToNat, Int.reduceGT, Int.reduceGE, Int.reduceNeg, Int.reduceAdd, Int.reduceSub, wrap64, chkAdd, effAdd, AOp.kind, chkAll, chkSee, Nat.reduceLT, zP.down, zQ.down]
      exact ⟨⟨v, by simpa [St.get_bump] using g, how.kept0 (Kept.refl _ _).bump.bump⟩, fun o y h _ _ => by simpa [St.get_bump] using h, by first | omega | (simp only [St.n_bump]; omega)⟩
    have d1 : decide (m.tot < 0) = false := by simpa using c1
    by_cases c2 : m.tot > 262144
    · have d2 : decide (m.tot > 262144) = true := by simpa using c2
      simp -implicitDefEqProofs (disch := first | exact nbf rfl | exact nbt rfl | (simp only [ne_eq, reduceCtorEq, not_false_eq_true]; done) | omega | (simp -implicitDefEqProofs only [St.n_push, St.n_put, St.n_bump, List.length_set] <;> omega) | fail) only [Tab.b11, mc, e1, e2, pnil, d1, d2, ot, aCallv, aPtrEq, XOp.kind, AOp.run, AO.eval, put, reduceCtorEq, aInt, Nat.reduceEqDiff, initEnv, V.bool, V.i64, resultsOf, AR.get, aExtract, aUn, Int.reduceEq, Int.reduceBEq, Int.reduceBNe, aBox, aLoad, aStore, aPart, aPlace, aArrAddr, aArrIdx, aIdx, aLenStr, aConv, aFold, aMinMax, aNilCheck, fillV, aEqBool, aEqInt, aEqStr, Nat.reduceAdd, Nat.reduceLeDiff, Nat.reduceMul, Int.reduceLT, Int.reduceLE, Int.reduceToNat, Int.reduceGT, Int.reduceGE, Int.reduceNeg, Int.reduceAdd, Int.reduceSub, wrap64, chkAdd, effAdd, AOp.kind, chkAll, chkSee, Nat.reduceLT, zP.down, zQ.down]
      exact ⟨⟨v, by simpa [St.get_bump] using g, how.kept0 (Kept.refl _ _).bump.bump⟩, fun o y h _ _ => by simpa [St.get_bump] using h, by first | omega | (simp only [St.n_bump]; omega)⟩
    have d2 : decide (m.tot > 262144) = false := by simpa using c2
    by_cases c3 : m.at' < 0
    · have d3 : decide (m.at' < 0) = true := by simpa using c3
      simp -implicitDefEqProofs (disch := first | exact nbf rfl | exact nbt rfl | (simp only [ne_eq, reduceCtorEq, not_false_eq_true]; done) | omega | (simp -implicitDefEqProofs only [St.n_push, St.n_put, St.n_bump, List.length_set] <;> omega) | fail) only [Tab.b11, mc, e1, e2, pnil, d1, d2, d3, ot, aCallv, aPtrEq, XOp.kind, AOp.run, AO.eval, put, reduceCtorEq, aInt, Nat.reduceEqDiff, initEnv, V.bool, V.i64, resultsOf, AR.get, aExtract, aUn, Int.reduceEq, Int.reduceBEq, Int.reduceBNe, aBox, aLoad, aStore, aPart, aPlace, aArrAddr, aArrIdx, aIdx, aLenStr, aConv, aFold, aMinMax, aNilCheck, fillV, aEqBool, aEqInt, aEqStr, Nat.reduceAdd, Nat.reduceLeDiff, Nat.reduceMul, Int.reduceLT, Int.reduceLE, Int.reduceToNat, Int.reduceGT, Int.reduceGE, Int.reduceNeg, Int.reduceAdd, Int.reduceSub, wrap64, chkAdd, effAdd, AOp.kind, chkAll, chkSee, Nat.reduceLT, zP.down, zQ.down]
      exact ⟨⟨v, by simpa [St.get_bump] using g, how.kept0 (Kept.refl _ _).bump.bump⟩, fun o y h _ _ => by simpa [St.get_bump] using h, by first | omega | (simp only [St.n_bump]; omega)⟩
    have d3 : decide (m.at' < 0) = false := by simpa using c3
    have d4 : decide (m.ix < 1) = true := by simp; omega
    simp -implicitDefEqProofs (disch := first | exact nbf rfl | exact nbt rfl | (simp only [ne_eq, reduceCtorEq, not_false_eq_true]; done) | omega | (simp -implicitDefEqProofs only [St.n_push, St.n_put, St.n_bump, List.length_set] <;> omega) | fail) only [Tab.b11, mc, e1, e2, pnil, d1, d2, d3, d4, ot, aCallv, aPtrEq, XOp.kind, AOp.run, AO.eval, put, reduceCtorEq, aInt, Nat.reduceEqDiff, initEnv, V.bool, V.i64, resultsOf, AR.get, aExtract, aUn, Int.reduceEq, Int.reduceBEq, Int.reduceBNe, aBox, aLoad, aStore, aPart, aPlace, aArrAddr, aArrIdx, aIdx, aLenStr, aConv, aFold, aMinMax, aNilCheck, fillV, aEqBool, aEqInt, aEqStr, Nat.reduceAdd, Nat.reduceLeDiff, Nat.reduceMul, Int.reduceLT, Int.reduceLE, Int.reduceToNat, Int.reduceGT, Int.reduceGE, Int.reduceNeg, Int.reduceAdd, Int.reduceSub, wrap64, chkAdd, effAdd, AOp.kind, chkAll, chkSee, Nat.reduceLT, zP.down, zQ.down]
    exact ⟨⟨v, by simpa [St.get_bump] using g, how.kept0 (Kept.refl _ _).bump.bump⟩, fun o y h _ _ => by simpa [St.get_bump] using h, by first | omega | (simp only [St.n_bump]; omega)⟩
  have out : iout x m = itell (iput x m) := by unfold iout; rw [if_neg hb]
  have pin : iput x m = iadd (inew x m) m := by unfold iput; rw [if_neg hb]
  have hok := inew_ok hx hb
  rw [out, pin]
  unfold ibad at hb
  have d1 : decide (m.tot < 0) = false := by simp; omega
  have d2 : decide (m.tot > 262144) = false := by simp; omega
  have d3 : decide (m.at' < 0) = false := by simp; omega
  have d4 : decide (m.ix < 1) = false := by simp; omega
  have gb : σ.bump.bump.get n = some (.cells [.sc (.int .i64 x.i), .sc (.int .i64 x.t), .sc (.int .i64 x.tot), v]) := by rw [St.get_bump, St.get_bump]; exact g
  simp -implicitDefEqProofs (disch := first | exact nbf rfl | exact nbt rfl | (simp only [ne_eq, reduceCtorEq, not_false_eq_true]; done) | omega | (simp -implicitDefEqProofs only [St.n_push, St.n_put, St.n_bump, List.length_set] <;> omega) | fail) only [Tab.b11, mc, e1, e2, pnil, d1, d2, d3, d4, g, eq2, aCallv, aPtrEq, XOp.kind, AOp.run, AO.eval, put, reduceCtorEq, aInt, Nat.reduceEqDiff, initEnv, V.bool, V.i64, resultsOf, AR.get, aExtract, aUn, Int.reduceEq, Int.reduceBEq, Int.reduceBNe, aBox, aLoad, aStore, aPart, aPlace, aArrAddr, aArrIdx, aIdx, aLenStr, aConv, aFold, aMinMax, aNilCheck, fillV, aEqBool, aEqInt, aEqStr, Nat.reduceAdd, Nat.reduceLeDiff, Nat.reduceMul, Int.reduceLT, Int.reduceLE, Int.reduceToNat, Int.reduceGT, Int.reduceGE, Int.reduceNeg, Int.reduceAdd, Int.reduceSub, wrap64, chkAdd, effAdd, AOp.kind, chkAll, chkSee, Nat.reduceLT, zP.down, zQ.down]
  refine w_fin ?_
  refine w_seq ?_
  refine W.mono (Q := fun r => ∃ (ρ : Env) (σ' : St) (v' : V), r = ((.normal : Ex), ρ, σ') ∧ ρ 0 = .ptr n 0 ∧ ρ 3 = .agg (mc m) ∧ σ'.get n = some (.cells [.sc (.int .i64 (inew x m).i), .sc (.int .i64 (inew x m).t), .sc (.int .i64 (inew x m).tot), v']) ∧ Ow lo σ' 1 v' ((inew x m).tx.map bc) ∧ Kept (· = n) σ σ') ?_ ?_
  · by_cases hs : m.ix = x.i ∧ m.lt = x.t ∧ m.tot = x.tot
    · have hi : inew x m = x := by unfold inew; rw [if_pos hs]
      rw [hi]
      have b1 : (m.ix == x.i && m.lt == x.t) = true := by simp [hs.1, hs.2.1]
      have b2 : (m.tot != x.tot) = false := by simp [hs.2.2]
      simp -implicitDefEqProofs (disch := first | exact nbf rfl | exact nbt rfl | (simp only [ne_eq, reduceCtorEq, not_false_eq_true]; done) | omega | (simp -implicitDefEqProofs only [St.n_push, St.n_put, St.n_bump, List.length_set] <;> omega) | fail) only [b1, b2, g, aCallv, aPtrEq, XOp.kind, AOp.run, AO.eval, put, reduceCtorEq, aInt, Nat.reduceEqDiff, initEnv, V.bool, V.i64, resultsOf, AR.get, aExtract, aUn, Int.reduceEq, Int.reduceBEq, Int.reduceBNe, aBox, aLoad, aStore, aPart, aPlace, aArrAddr, aArrIdx, aIdx, aLenStr, aConv, aFold, aMinMax, aEqV, aNilCheck, fillV, aEqBool, aEqInt, aEqStr, Nat.reduceAdd, Nat.reduceLeDiff, Nat.reduceMul, Int.reduceLT, Int.reduceLE, Int.reduceToNat, Int.reduceGT, Int.reduceGE, Int.reduceNeg, Int.reduceAdd, Int.reduceSub, wrap64, chkAdd, effAdd, AOp.kind, chkAll, chkSee, Nat.reduceLT, zP.down, zQ.down]
      refine ⟨_, _, v, rfl, ?_, ?_, gb, how.kept0 (Kept.refl _ _).bump.bump, (Kept.refl _ _).bump.bump⟩
      all_goals (simp -implicitDefEqProofs (disch := first | exact nbf rfl | exact nbt rfl | (simp only [ne_eq, reduceCtorEq, not_false_eq_true]; done) | omega | (simp -implicitDefEqProofs only [St.n_push, St.n_put, St.n_bump, List.length_set] <;> omega) | fail) only [mc, aCallv, aPtrEq, XOp.kind, AOp.run, AO.eval, put, reduceCtorEq, aInt, Nat.reduceEqDiff, initEnv, V.bool, V.i64, resultsOf, AR.get, aExtract, aUn, Int.reduceEq, Int.reduceBEq, Int.reduceBNe, aBox, aLoad, aStore, aPart, aPlace, aArrAddr, aArrIdx, aIdx, aLenStr, aConv, aFold, aMinMax, aEqV, aNilCheck, fillV, aEqBool, aEqInt, aEqStr, Nat.reduceAdd, Nat.reduceLeDiff, Nat.reduceMul, Int.reduceLT, Int.reduceLE, Int.reduceToNat, Int.reduceGT, Int.reduceGE, Int.reduceNeg, Int.reduceAdd, Int.reduceSub, wrap64, chkAdd, effAdd, AOp.kind, chkAll, chkSee, Nat.reduceLT, zP.down, zQ.down]; done)
    · have hi : inew x m = ⟨m.ix, m.lt, m.tot, []⟩ := by unfold inew; rw [if_neg hs]
      rw [hi]
      dsimp only
      by_cases h1 : m.ix = x.i ∧ m.lt = x.t
      · have b1 : (m.ix == x.i && m.lt == x.t) = true := by simp [h1.1, h1.2]
        have b2 : (m.tot != x.tot) = true := by
          simp only [bne_iff_ne, ne_eq]
          exact fun h => hs ⟨h1.1, h1.2, h⟩
        simp -implicitDefEqProofs (disch := first | exact nbf rfl | exact nbt rfl | (simp only [ne_eq, reduceCtorEq, not_false_eq_true]; done) | omega | (simp -implicitDefEqProofs only [St.n_push, St.n_put, St.n_bump, List.length_set] <;> omega) | fail) only [b1, b2, g, aCallv, aPtrEq, XOp.kind, AOp.run, AO.eval, put, reduceCtorEq, aInt, Nat.reduceEqDiff, initEnv, V.bool, V.i64, resultsOf, AR.get, aExtract, aUn, Int.reduceEq, Int.reduceBEq, Int.reduceBNe, aBox, aLoad, aStore, aPart, aPlace, aArrAddr, aArrIdx, aIdx, aLenStr, aConv, aFold, aMinMax, aEqV, aNilCheck, fillV, aEqBool, aEqInt, aEqStr, Nat.reduceAdd, Nat.reduceLeDiff, Nat.reduceMul, Int.reduceLT, Int.reduceLE, Int.reduceToNat, Int.reduceGT, Int.reduceGE, Int.reduceNeg, Int.reduceAdd, Int.reduceSub, wrap64, chkAdd, effAdd, AOp.kind, chkAll, chkSee, Nat.reduceLT, zP.down, zQ.down]
        refine ⟨_, _, .sc .nilS, rfl, ?_, ?_, ?_, .nil, ?_⟩
        · simp -implicitDefEqProofs (disch := first | exact nbf rfl | exact nbt rfl | (simp only [ne_eq, reduceCtorEq, not_false_eq_true]; done) | omega | (simp -implicitDefEqProofs only [St.n_push, St.n_put, St.n_bump, List.length_set] <;> omega) | fail) only [mc, aCallv, aPtrEq, XOp.kind, AOp.run, AO.eval, put, reduceCtorEq, aInt, Nat.reduceEqDiff, initEnv, V.bool, V.i64, resultsOf, AR.get, aExtract, aUn, Int.reduceEq, Int.reduceBEq, Int.reduceBNe, aBox, aLoad, aStore, aPart, aPlace, aArrAddr, aArrIdx, aIdx, aLenStr, aConv, aFold, aMinMax, aEqV, aNilCheck, fillV, aEqBool, aEqInt, aEqStr, Nat.reduceAdd, Nat.reduceLeDiff, Nat.reduceMul, Int.reduceLT, Int.reduceLE, Int.reduceToNat, Int.reduceGT, Int.reduceGE, Int.reduceNeg, Int.reduceAdd, Int.reduceSub, wrap64, chkAdd, effAdd, AOp.kind, chkAll, chkSee, Nat.reduceLT, zP.down, zQ.down]
        · simp -implicitDefEqProofs (disch := first | exact nbf rfl | exact nbt rfl | (simp only [ne_eq, reduceCtorEq, not_false_eq_true]; done) | omega | (simp -implicitDefEqProofs only [St.n_push, St.n_put, St.n_bump, List.length_set] <;> omega) | fail) only [mc, aCallv, aPtrEq, XOp.kind, AOp.run, AO.eval, put, reduceCtorEq, aInt, Nat.reduceEqDiff, initEnv, V.bool, V.i64, resultsOf, AR.get, aExtract, aUn, Int.reduceEq, Int.reduceBEq, Int.reduceBNe, aBox, aLoad, aStore, aPart, aPlace, aArrAddr, aArrIdx, aIdx, aLenStr, aConv, aFold, aMinMax, aEqV, aNilCheck, fillV, aEqBool, aEqInt, aEqStr, Nat.reduceAdd, Nat.reduceLeDiff, Nat.reduceMul, Int.reduceLT, Int.reduceLE, Int.reduceToNat, Int.reduceGT, Int.reduceGE, Int.reduceNeg, Int.reduceAdd, Int.reduceSub, wrap64, chkAdd, effAdd, AOp.kind, chkAll, chkSee, Nat.reduceLT, zP.down, zQ.down]
        · simp -implicitDefEqProofs (disch := first | exact nbf rfl | exact nbt rfl | (simp only [ne_eq, reduceCtorEq, not_false_eq_true]; done) | omega | (simp -implicitDefEqProofs only [St.n_push, St.n_put, St.n_bump, List.length_set] <;> omega) | fail) only [mc, aCallv, aPtrEq, XOp.kind, AOp.run, AO.eval, put, reduceCtorEq, aInt, Nat.reduceEqDiff, initEnv, V.bool, V.i64, resultsOf, AR.get, aExtract, aUn, Int.reduceEq, Int.reduceBEq, Int.reduceBNe, aBox, aLoad, aStore, aPart, aPlace, aArrAddr, aArrIdx, aIdx, aLenStr, aConv, aFold, aMinMax, aEqV, aNilCheck, fillV, aEqBool, aEqInt, aEqStr, Nat.reduceAdd, Nat.reduceLeDiff, Nat.reduceMul, Int.reduceLT, Int.reduceLE, Int.reduceToNat, Int.reduceGT, Int.reduceGE, Int.reduceNeg, Int.reduceAdd, Int.reduceSub, wrap64, chkAdd, effAdd, AOp.kind, chkAll, chkSee, Nat.reduceLT, zP.down, zQ.down]
        · have k0 : Kept (· = n) σ σ.bump.bump := (Kept.refl _ _).bump.bump
          exact ((k0.put (.inl rfl) (by first | omega | (simp; omega)) _).put (.inl rfl) (by first | omega | (simp; omega)) _).put (.inl rfl) (by first | omega | (simp; omega)) _
      · have b1 : (m.ix == x.i && m.lt == x.t) = false := by
          rw [Bool.eq_false_iff]
          simpa using h1
        simp -implicitDefEqProofs (disch := first | exact nbf rfl | exact nbt rfl | (simp only [ne_eq, reduceCtorEq, not_false_eq_true]; done) | omega | (simp -implicitDefEqProofs only [St.n_push, St.n_put, St.n_bump, List.length_set] <;> omega) | fail) only [b1, g, aCallv, aPtrEq, XOp.kind, AOp.run, AO.eval, put, reduceCtorEq, aInt, Nat.reduceEqDiff, initEnv, V.bool, V.i64, resultsOf, AR.get, aExtract, aUn, Int.reduceEq, Int.reduceBEq, Int.reduceBNe, aBox, aLoad, aStore, aPart, aPlace, aArrAddr, aArrIdx, aIdx, aLenStr, aConv, aFold, aMinMax, aEqV, aNilCheck, fillV, aEqBool, aEqInt, aEqStr, Nat.reduceAdd, Nat.reduceLeDiff, Nat.reduceMul, Int.reduceLT, Int.reduceLE, Int.reduceToNat, Int.reduceGT, Int.reduceGE, Int.reduceNeg, Int.reduceAdd, Int.reduceSub, wrap64, chkAdd, effAdd, AOp.kind, chkAll, chkSee, Nat.reduceLT, zP.down, zQ.down]
        refine ⟨_, _, .sc .nilS, rfl, ?_, ?_, ?_, .nil, ?_⟩
        · simp -implicitDefEqProofs (disch := first | exact nbf rfl | exact nbt rfl | (simp only [ne_eq, reduceCtorEq, not_false_eq_true]; done) | omega | (simp -implicitDefEqProofs only [St.n_push, St.n_put, St.n_bump, List.length_set] <;> omega) | fail) only [mc, aCallv, aPtrEq, XOp.kind, AOp.run, AO.eval, put, reduceCtorEq, aInt, Nat.reduceEqDiff, initEnv, V.bool, V.i64, resultsOf, AR.get, aExtract, aUn, Int.reduceEq, Int.reduceBEq, Int.reduceBNe, aBox, aLoad, aStore, aPart, aPlace, aArrAddr, aArrIdx, aIdx, aLenStr, aConv, aFold, aMinMax, aEqV, aNilCheck, fillV, aEqBool, aEqInt, aEqStr, Nat.reduceAdd, Nat.reduceLeDiff, Nat.reduceMul, Int.reduceLT, Int.reduceLE, Int.reduceToNat, Int.reduceGT, Int.reduceGE, Int.reduceNeg, Int.reduceAdd, Int.reduceSub, wrap64, chkAdd, effAdd, AOp.kind, chkAll, chkSee, Nat.reduceLT, zP.down, zQ.down]
        · simp -implicitDefEqProofs (disch := first | exact nbf rfl | exact nbt rfl | (simp only [ne_eq, reduceCtorEq, not_false_eq_true]; done) | omega | (simp -implicitDefEqProofs only [St.n_push, St.n_put, St.n_bump, List.length_set] <;> omega) | fail) only [mc, aCallv, aPtrEq, XOp.kind, AOp.run, AO.eval, put, reduceCtorEq, aInt, Nat.reduceEqDiff, initEnv, V.bool, V.i64, resultsOf, AR.get, aExtract, aUn, Int.reduceEq, Int.reduceBEq, Int.reduceBNe, aBox, aLoad, aStore, aPart, aPlace, aArrAddr, aArrIdx, aIdx, aLenStr, aConv, aFold, aMinMax, aEqV, aNilCheck, fillV, aEqBool, aEqInt, aEqStr, Nat.reduceAdd, Nat.reduceLeDiff, Nat.reduceMul, Int.reduceLT, Int.reduceLE, Int.reduceToNat, Int.reduceGT, Int.reduceGE, Int.reduceNeg, Int.reduceAdd, Int.reduceSub, wrap64, chkAdd, effAdd, AOp.kind, chkAll, chkSee, Nat.reduceLT, zP.down, zQ.down]
        · simp -implicitDefEqProofs (disch := first | exact nbf rfl | exact nbt rfl | (simp only [ne_eq, reduceCtorEq, not_false_eq_true]; done) | omega | (simp -implicitDefEqProofs only [St.n_push, St.n_put, St.n_bump, List.length_set] <;> omega) | fail) only [mc, aCallv, aPtrEq, XOp.kind, AOp.run, AO.eval, put, reduceCtorEq, aInt, Nat.reduceEqDiff, initEnv, V.bool, V.i64, resultsOf, AR.get, aExtract, aUn, Int.reduceEq, Int.reduceBEq, Int.reduceBNe, aBox, aLoad, aStore, aPart, aPlace, aArrAddr, aArrIdx, aIdx, aLenStr, aConv, aFold, aMinMax, aEqV, aNilCheck, fillV, aEqBool, aEqInt, aEqStr, Nat.reduceAdd, Nat.reduceLeDiff, Nat.reduceMul, Int.reduceLT, Int.reduceLE, Int.reduceToNat, Int.reduceGT, Int.reduceGE, Int.reduceNeg, Int.reduceAdd, Int.reduceSub, wrap64, chkAdd, effAdd, AOp.kind, chkAll, chkSee, Nat.reduceLT, zP.down, zQ.down]
        · have k0 : Kept (· = n) σ σ.bump.bump := (Kept.refl _ _).bump.bump
          exact ((k0.put (.inl rfl) (by first | omega | (simp; omega)) _).put (.inl rfl) (by first | omega | (simp; omega)) _).put (.inl rfl) (by first | omega | (simp; omega)) _
  · rintro _ ⟨ρ, σ', v', rfl, e0, e3, g', how', kp⟩
    have hlen := how'.rv.len
    rw [List.length_map] at hlen
    have hcell := how'.rv.cell
    generalize inew x m = y at *
    have hle := hok.le
    have hhi := hok.hi
    have w1 : IntKind.i64.wrap (y.tot - (y.tx.length : Int)) = y.tot - (y.tx.length : Int) := wrap64 (by omega) (by omega)
    -- what is told
    have fin : ∀ (z : IB) σ2 v2, z.Ok → σ2.get n = some (.cells [.sc (.int .i64 z.i), .sc (.int .i64 z.t), .sc (.int .i64 z.tot), v2]) → Ow lo σ2 1 v2 (z.tx.map bc) → (∀ o y, σ.get o = some y → o ≠ n → o < lo → σ2.get o = some y) → σ.n ≤ σ2.n → (IR lo σ2 n z ∧ (∀ o y, σ.get o = some y → o ≠ n → o < lo → σ2.get o = some y) ∧ σ.n ≤ σ2.n) := fun z σ2 v2 h1 h2 h3 h4 h5 => ⟨⟨v2, h2, h3⟩, h4, h5⟩
    by_cases q : m.at' = y.tx.length ∧ (m.dat.length : Int) ≤ y.tot - y.tx.length
    · have hi : iadd y m = { y with tx := y.tx ++ m.dat } := by unfold iadd; rw [if_pos q]
      rw [hi]
      have b1 := beq_iff_eq.2 q.1
      have b2 : decide ((m.dat.length : Int) ≤ y.tot - y.tx.length) = true := by simpa using q.2
      simp -implicitDefEqProofs (disch := first | exact nbf rfl | exact nbt rfl | (simp only [ne_eq, reduceCtorEq, not_false_eq_true]; done) | omega | (simp -implicitDefEqProofs only [St.n_push, St.n_put, St.n_bump, List.length_set] <;> omega) | fail) only [e0, e3, g', mc, hlen, b1, b2, w1, aCallv, aPtrEq, XOp.kind, AOp.run, AO.eval, put, reduceCtorEq, aInt, Nat.reduceEqDiff, initEnv, V.bool, V.i64, resultsOf, AR.get, aExtract, aUn, Int.reduceEq, Int.reduceBEq, Int.reduceBNe, aBox, aLoad, aStore, aPart, aPlace, aArrAddr, aArrIdx, aIdx, aLenStr, aConv, aFold, aMinMax, aEqV, aNilCheck, fillV, aEqBool, aEqInt, aEqStr, Nat.reduceAdd, Nat.reduceLeDiff, Nat.reduceMul, Int.reduceLT, Int.reduceLE, Int.reduceToNat, Int.reduceGT, Int.reduceGE, Int.reduceNeg, Int.reduceAdd, Int.reduceSub, wrap64, chkAdd, effAdd, AOp.kind, chkAll, chkSee, Nat.reduceLT, zP.down, zQ.down]
      repeat (first | refine w_fin ?_ | refine w_seq ?_ | refine w_block ?_ | refine w_reg ?_ | refine w_op ?_ | refine w_dop ?_)
      refine (grow_str how' (by have := kp.n; omega) (by unfold roomB; omega) (by unfold roomB; omega)).mono ?_
      rintro ⟨w, σ2⟩ ⟨h1, h2⟩
      dsimp only at h1 h2
      have g2 := h2.cells g'
      have gl2 := St.get_lt g2
      have hc2 := h1.rv.cell
      have hl2 := h1.rv.len
      rw [List.length_map] at hl2
      have hb2 := fun σ => b2s_rv (σ := σ) h1.rv
      have n1 := kp.n
      have n2 := h2.n
      have hp : ∀ z, IR lo (σ2.put n (some (.cells [.sc (.int .i64 y.i), .sc (.int .i64 y.t), .sc (.int .i64 y.tot), w]))) n { y with tx := y.tx ++ m.dat } ∧ (∀ o y', σ.get o = some y' → o ≠ n → o < lo → (σ2.put n z).get o = some y') ∧ σ.n ≤ σ2.n := fun z =>
        ⟨⟨w, get_put_self g2, h1.kept (X := (· = n)) (Kept.put (X := (· = n)) (Kept.refl _ _) (.inl rfl) gl2 _) (by rintro _ rfl; rw [g2]; simp)⟩, fun o y' h3 h4 h5 => get_put_other gl2 h4 (h2.get o y' (kp.get o y' h4 h3) (.inl h5)), by omega⟩
      by_cases c : ((y.tx ++ m.dat).length : Int) < y.tot
      · have dc : decide (((y.tx ++ m.dat).length : Int) < y.tot) = true := by simpa using c
        simp -implicitDefEqProofs (disch := first | exact nbf rfl | exact nbt rfl | (simp only [ne_eq, reduceCtorEq, not_false_eq_true]; done) | omega | (simp -implicitDefEqProofs only [St.n_push, St.n_put, St.n_bump, List.length_set] <;> omega) | fail) only [e0, e3, g2, hc2.1, hc2.2, hl2, hb2, dc, itell, c, ot, aCallv, aPtrEq, XOp.kind, AOp.run, AO.eval, put, reduceCtorEq, aInt, Nat.reduceEqDiff, initEnv, V.bool, V.i64, resultsOf, AR.get, aExtract, aUn, Int.reduceEq, Int.reduceBEq, Int.reduceBNe, aBox, aLoad, aStore, aPart, aPlace, aArrAddr, aArrIdx, aIdx, aLenStr, aConv, aFold, aMinMax, aEqV, aNilCheck, fillV, aEqBool, aEqInt, aEqStr, Nat.reduceAdd, Nat.reduceLeDiff, Nat.reduceMul, Int.reduceLT, Int.reduceLE, Int.reduceToNat, Int.reduceGT, Int.reduceGE, Int.reduceNeg, Int.reduceAdd, Int.reduceSub, wrap64, chkAdd, effAdd, AOp.kind, chkAll, chkSee, Nat.reduceLT, zP.down, zQ.down]
        exact hp _
      · have dc : decide (((y.tx ++ m.dat).length : Int) < y.tot) = false := by simpa using c
        simp -implicitDefEqProofs (disch := first | exact nbf rfl | exact nbt rfl | (simp only [ne_eq, reduceCtorEq, not_false_eq_true]; done) | omega | (simp -implicitDefEqProofs only [St.n_push, St.n_put, St.n_bump, List.length_set] <;> omega) | fail) only [e0, e3, g2, hc2.1, hc2.2, hl2, hb2, dc, itell, c, ot, aCallv, aPtrEq, XOp.kind, AOp.run, AO.eval, put, reduceCtorEq, aInt, Nat.reduceEqDiff, initEnv, V.bool, V.i64, resultsOf, AR.get, aExtract, aUn, Int.reduceEq, Int.reduceBEq, Int.reduceBNe, aBox, aLoad, aStore, aPart, aPlace, aArrAddr, aArrIdx, aIdx, aLenStr, aConv, aFold, aMinMax, aEqV, aNilCheck, fillV, aEqBool, aEqInt, aEqStr, Nat.reduceAdd, Nat.reduceLeDiff, Nat.reduceMul, Int.reduceLT, Int.reduceLE, Int.reduceToNat, Int.reduceGT, Int.reduceGE, Int.reduceNeg, Int.reduceAdd, Int.reduceSub, wrap64, chkAdd, effAdd, AOp.kind, chkAll, chkSee, Nat.reduceLT, zP.down, zQ.down]
        exact hp _
    · have hi : iadd y m = y := by unfold iadd; rw [if_neg q]
      rw [hi]
      have gl2 := St.get_lt g'
      have hb2 := fun σ => b2s_rv (σ := σ) how'.rv
      have hp : IR lo σ' n y ∧ (∀ o y', σ.get o = some y' → o ≠ n → o < lo → σ'.get o = some y') ∧ σ.n ≤ σ'.n := ⟨⟨v', g', how'⟩, fun o y' h3 h4 h5 => kp.get o y' h4 h3, kp.n⟩
      have dd : decide ((y.tx.length : Int) < y.tot) = decide ((y.tx.length : Int) < y.tot) := rfl
      by_cases q1 : m.at' = y.tx.length
      · have b1 := beq_iff_eq.2 q1
        have b2 : decide ((m.dat.length : Int) ≤ y.tot - y.tx.length) = false := by
          simp only [decide_eq_false_iff_not]
          exact fun h => q ⟨q1, h⟩
        by_cases c : (y.tx.length : Int) < y.tot
        · have dc : decide ((y.tx.length : Int) < y.tot) = true := by simpa using c
          simp -implicitDefEqProofs (disch := first | exact nbf rfl | exact nbt rfl | (simp only [ne_eq, reduceCtorEq, not_false_eq_true]; done) | omega | (simp -implicitDefEqProofs only [St.n_push, St.n_put, St.n_bump, List.length_set] <;> omega) | fail) only [e0, e3, g', mc, hlen, b1, b2, w1, hcell.1, hcell.2, hb2, dc, itell, c, ot, aCallv, aPtrEq, XOp.kind, AOp.run, AO.eval, put, reduceCtorEq, aInt, Nat.reduceEqDiff, initEnv, V.bool, V.i64, resultsOf, AR.get, aExtract, aUn, Int.reduceEq, Int.reduceBEq, Int.reduceBNe, aBox, aLoad, aStore, aPart, aPlace, aArrAddr, aArrIdx, aIdx, aLenStr, aConv, aFold, aMinMax, aEqV, aNilCheck, fillV, aEqBool, aEqInt, aEqStr, Nat.reduceAdd, Nat.reduceLeDiff, Nat.reduceMul, Int.reduceLT, Int.reduceLE, Int.reduceToNat, Int.reduceGT, Int.reduceGE, Int.reduceNeg, Int.reduceAdd, Int.reduceSub, wrap64, chkAdd, effAdd, AOp.kind, chkAll, chkSee, Nat.reduceLT, zP.down, zQ.down]
          exact hp
        · have dc : decide ((y.tx.length : Int) < y.tot) = false := by simpa using c
          simp -implicitDefEqProofs (disch := first | exact nbf rfl | exact nbt rfl | (simp only [ne_eq, reduceCtorEq, not_false_eq_true]; done) | omega | (simp -implicitDefEqProofs only [St.n_push, St.n_put, St.n_bump, List.length_set] <;> omega) | fail) only [e0, e3, g', mc, hlen, b1, b2, w1, hcell.1, hcell.2, hb2, dc, itell, c, ot, aCallv, aPtrEq, XOp.kind, AOp.run, AO.eval, put, reduceCtorEq, aInt, Nat.reduceEqDiff, initEnv, V.bool, V.i64, resultsOf, AR.get, aExtract, aUn, Int.reduceEq, Int.reduceBEq, Int.reduceBNe, aBox, aLoad, aStore, aPart, aPlace, aArrAddr, aArrIdx, aIdx, aLenStr, aConv, aFold, aMinMax, aEqV, aNilCheck, fillV, aEqBool, aEqInt, aEqStr, Nat.reduceAdd, Nat.reduceLeDiff, Nat.reduceMul, Int.reduceLT, Int.reduceLE, Int.reduceToNat, Int.reduceGT, Int.reduceGE, Int.reduceNeg, Int.reduceAdd, Int.reduceSub, wrap64, chkAdd, effAdd, AOp.kind, chkAll, chkSee, Nat.reduceLT, zP.down, zQ.down]
          exact hp
      · have b1 := beq_eq_false_iff_ne.2 q1
        by_cases c : (y.tx.length : Int) < y.tot
        · have dc : decide ((y.tx.length : Int) < y.tot) = true := by simpa using c
          simp -implicitDefEqProofs (disch := first | exact nbf rfl | exact nbt rfl | (simp only [ne_eq, reduceCtorEq, not_false_eq_true]; done) | omega | (simp -implicitDefEqProofs only [St.n_push, St.n_put, St.n_bump, List.length_set] <;> omega) | fail) only [e0, e3, g', mc, hlen, b1, w1, hcell.1, hcell.2, hb2, dc, itell, c, ot, aCallv, aPtrEq, XOp.kind, AOp.run, AO.eval, put, reduceCtorEq, aInt, Nat.reduceEqDiff, initEnv, V.bool, V.i64, resultsOf, AR.get, aExtract, aUn, Int.reduceEq, Int.reduceBEq, Int.reduceBNe, aBox, aLoad, aStore, aPart, aPlace, aArrAddr, aArrIdx, aIdx, aLenStr, aConv, aFold, aMinMax, aEqV, aNilCheck, fillV, aEqBool, aEqInt, aEqStr, Nat.reduceAdd, Nat.reduceLeDiff, Nat.reduceMul, Int.reduceLT, Int.reduceLE, Int.reduceToNat, Int.reduceGT, Int.reduceGE, Int.reduceNeg, Int.reduceAdd, Int.reduceSub, wrap64, chkAdd, effAdd, AOp.kind, chkAll, chkSee, Nat.reduceLT, zP.down, zQ.down]
          exact hp
        · have dc : decide ((y.tx.length : Int) < y.tot) = false := by simpa using c
          simp -implicitDefEqProofs (disch := first | exact nbf rfl | exact nbt rfl | (simp only [ne_eq, reduceCtorEq, not_false_eq_true]; done) | omega | (simp -implicitDefEqProofs only [St.n_push, St.n_put, St.n_bump, List.length_set] <;> omega) | fail) only [e0, e3, g', mc, hlen, b1, w1, hcell.1, hcell.2, hb2, dc, itell, c, ot, aCallv, aPtrEq, XOp.kind, AOp.run, AO.eval, put, reduceCtorEq, aInt, Nat.reduceEqDiff, initEnv, V.bool, V.i64, resultsOf, AR.get, aExtract, aUn, Int.reduceEq, Int.reduceBEq, Int.reduceBNe, aBox, aLoad, aStore, aPart, aPlace, aArrAddr, aArrIdx, aIdx, aLenStr, aConv, aFold, aMinMax, aEqV, aNilCheck, fillV, aEqBool, aEqInt, aEqStr, Nat.reduceAdd, Nat.reduceLeDiff, Nat.reduceMul, Int.reduceLT, Int.reduceLE, Int.reduceToNat, Int.reduceGT, Int.reduceGE, Int.reduceNeg, Int.reduceAdd, Int.reduceSub, wrap64, chkAdd, effAdd, AOp.kind, chkAll, chkSee, Nat.reduceLT, zP.down, zQ.down]
          exact hp

/-- The document's. -/
def WR (σ : St) (n : Nat) (x : IB) : Prop := σ.get n = some (.cells [.sc (.int .i64 x.i), .sc (.int .i64 x.t), .sc (.int .i64 x.tot), .str x.tx])
theorem rput_ok (k : Nat) (ys : YlF) (σ : St) (n : Nat) (x : IB) (m : Ms) (h : WR σ n x) (hx : x.Ok) (hen : Cell1 m.en) (hd : m.dat.length ≤ 1000000) :
    W (callY Tab.tb (k + 1) ys 12 [.ptr n 0, .agg (mc m)] σ) fun r => r.1 = ot (iout x m) ∧ WR r.2 n (iput x m) ∧ Kept (· = n) σ r.2 := by
  rw [s_call (af := Tab.b12) rfl (Nat.le_of_ble_eq_true rfl)]
  generalize callY Tab.tb k = cy
  unfold WR at h
  have g := h
  have e1 := hen.1
  have e2 := hen.2
  have gl := St.get_lt g
  have k0 : Kept (· = n) σ σ.bump := (Kept.refl _ _).bump
  have g0 : σ.bump.get n = some (.cells [.sc (.int .i64 x.i), .sc (.int .i64 x.t), .sc (.int .i64 x.tot), .str x.tx]) := by rw [St.get_bump]; exact g
  by_cases hb : ibad m
  · have hb' := hb
    unfold ibad at hb'
    have out : iout x m = (0, [], false) := by unfold iout; rw [if_pos hb]
    have pin : iput x m = x := by unfold iput; rw [if_pos hb]
    rw [out, pin]
    by_cases c1 : m.tot < 0
    · have d1 : decide (m.tot < 0) = true := by simpa using c1
      simp -implicitDefEqProofs (disch := first | exact nbf rfl | exact nbt rfl | (simp only [ne_eq, reduceCtorEq, not_false_eq_true]; done) | omega | (simp -implicitDefEqProofs only [St.n_push, St.n_put, St.n_bump, List.length_set] <;> omega) | fail) only [Tab.b12, mc, e1, e2, d1, ot, aCallv, aPtrEq, XOp.kind, AOp.run, AO.eval, put, reduceCtorEq, aInt, Nat.reduceEqDiff, initEnv, V.bool, V.i64, resultsOf, AR.get, aExtract, aUn, Int.reduceEq, Int.reduceBEq, Int.reduceBNe, aBox, aLoad, aStore, aPart, aPlace, aArrAddr, aArrIdx, aIdx, aLenStr, aConv, aFold, aMinMax, aEqV, aNilCheck, fillV, aEqBool, aEqInt, aEqStr, Nat.reduceAdd, Nat.reduceLeDiff, Nat.reduceMul, Int.reduceLT, Int.reduceLE, Int.reduceToNat, Int.reduceGT, Int.reduceGE, Int.reduceNeg, Int.reduceAdd, Int.reduceSub, wrap64, chkAdd, effAdd, AOp.kind, chkAll, chkSee, Nat.reduceLT, zP.down, zQ.down]
      exact ⟨g0, k0⟩
    have d1 : decide (m.tot < 0) = false := by simpa using c1
    by_cases c2 : m.tot > 262144
    · have d2 : decide (m.tot > 262144) = true := by simpa using c2
      simp -implicitDefEqProofs (disch := first | exact nbf rfl | exact nbt rfl | (simp only [ne_eq, reduceCtorEq, not_false_eq_true]; done) | omega | (simp -implicitDefEqProofs only [St.n_push, St.n_put, St.n_bump, List.length_set] <;> omega) | fail) only [Tab.b12, mc, e1, e2, d1, d2, ot, aCallv, aPtrEq, XOp.kind, AOp.run, AO.eval, put, reduceCtorEq, aInt, Nat.reduceEqDiff, initEnv, V.bool, V.i64, resultsOf, AR.get, aExtract, aUn, Int.reduceEq, Int.reduceBEq, Int.reduceBNe, aBox, aLoad, aStore, aPart, aPlace, aArrAddr, aArrIdx, aIdx, aLenStr, aConv, aFold, aMinMax, aEqV, aNilCheck, fillV, aEqBool, aEqInt, aEqStr, Nat.reduceAdd, Nat.reduceLeDiff, Nat.reduceMul, Int.reduceLT, Int.reduceLE, Int.reduceToNat, Int.reduceGT, Int.reduceGE, Int.reduceNeg, Int.reduceAdd, Int.reduceSub, wrap64, chkAdd, effAdd, AOp.kind, chkAll, chkSee, Nat.reduceLT, zP.down, zQ.down]
      exact ⟨g0, k0⟩
    have d2 : decide (m.tot > 262144) = false := by simpa using c2
    by_cases c3 : m.at' < 0
    · have d3 : decide (m.at' < 0) = true := by simpa using c3
      simp -implicitDefEqProofs (disch := first | exact nbf rfl | exact nbt rfl | (simp only [ne_eq, reduceCtorEq, not_false_eq_true]; done) | omega | (simp -implicitDefEqProofs only [St.n_push, St.n_put, St.n_bump, List.length_set] <;> omega) | fail) only [Tab.b12, mc, e1, e2, d1, d2, d3, ot, aCallv, aPtrEq, XOp.kind, AOp.run, AO.eval, put, reduceCtorEq, aInt, Nat.reduceEqDiff, initEnv, V.bool, V.i64, resultsOf, AR.get, aExtract, aUn, Int.reduceEq, Int.reduceBEq, Int.reduceBNe, aBox, aLoad, aStore, aPart, aPlace, aArrAddr, aArrIdx, aIdx, aLenStr, aConv, aFold, aMinMax, aEqV, aNilCheck, fillV, aEqBool, aEqInt, aEqStr, Nat.reduceAdd, Nat.reduceLeDiff, Nat.reduceMul, Int.reduceLT, Int.reduceLE, Int.reduceToNat, Int.reduceGT, Int.reduceGE, Int.reduceNeg, Int.reduceAdd, Int.reduceSub, wrap64, chkAdd, effAdd, AOp.kind, chkAll, chkSee, Nat.reduceLT, zP.down, zQ.down]
      exact ⟨g0, k0⟩
    have d3 : decide (m.at' < 0) = false := by simpa using c3
    have d4 : decide (m.ix < 1) = true := by simp; omega
    simp -implicitDefEqProofs (disch := first | exact nbf rfl | exact nbt rfl | (simp only [ne_eq, reduceCtorEq, not_false_eq_true]; done) | omega | (simp -implicitDefEqProofs only [St.n_push, St.n_put, St.n_bump, List.length_set] <;> omega) | fail) only [Tab.b12, mc, e1, e2, d1, d2, d3, d4, ot, aCallv, aPtrEq, XOp.kind, AOp.run, AO.eval, put, reduceCtorEq, aInt, Nat.reduceEqDiff, initEnv, V.bool, V.i64, resultsOf, AR.get, aExtract, aUn, Int.reduceEq, Int.reduceBEq, Int.reduceBNe, aBox, aLoad, aStore, aPart, aPlace, aArrAddr, aArrIdx, aIdx, aLenStr, aConv, aFold, aMinMax, aEqV, aNilCheck, fillV, aEqBool, aEqInt, aEqStr, Nat.reduceAdd, Nat.reduceLeDiff, Nat.reduceMul, Int.reduceLT, Int.reduceLE, Int.reduceToNat, Int.reduceGT, Int.reduceGE, Int.reduceNeg, Int.reduceAdd, Int.reduceSub, wrap64, chkAdd, effAdd, AOp.kind, chkAll, chkSee, Nat.reduceLT, zP.down, zQ.down]
    exact ⟨g0, k0⟩
  have out : iout x m = itell (iput x m) := by unfold iout; rw [if_neg hb]
  have pin : iput x m = iadd (inew x m) m := by unfold iput; rw [if_neg hb]
  have hok := inew_ok hx hb
  rw [out, pin]
  unfold ibad at hb
  have d1 : decide (m.tot < 0) = false := by simp; omega
  have d2 : decide (m.tot > 262144) = false := by simp; omega
  have d3 : decide (m.at' < 0) = false := by simp; omega
  have d4 : decide (m.ix < 1) = false := by simp; omega
  simp -implicitDefEqProofs (disch := first | exact nbf rfl | exact nbt rfl | (simp only [ne_eq, reduceCtorEq, not_false_eq_true]; done) | omega | (simp -implicitDefEqProofs only [St.n_push, St.n_put, St.n_bump, List.length_set] <;> omega) | fail) only [Tab.b12, mc, e1, e2, d1, d2, d3, d4, g, aCallv, aPtrEq, XOp.kind, AOp.run, AO.eval, put, reduceCtorEq, aInt, Nat.reduceEqDiff, initEnv, V.bool, V.i64, resultsOf, AR.get, aExtract, aUn, Int.reduceEq, Int.reduceBEq, Int.reduceBNe, aBox, aLoad, aStore, aPart, aPlace, aArrAddr, aArrIdx, aIdx, aLenStr, aConv, aFold, aMinMax, aEqV, aNilCheck, fillV, aEqBool, aEqInt, aEqStr, Nat.reduceAdd, Nat.reduceLeDiff, Nat.reduceMul, Int.reduceLT, Int.reduceLE, Int.reduceToNat, Int.reduceGT, Int.reduceGE, Int.reduceNeg, Int.reduceAdd, Int.reduceSub, wrap64, chkAdd, effAdd, AOp.kind, chkAll, chkSee, Nat.reduceLT, zP.down, zQ.down]
  refine w_fin ?_
  refine w_seq ?_
  refine W.mono (Q := fun r => ∃ (ρ : Env) (σ' : St), r = ((.normal : Ex), ρ, σ') ∧ ρ 0 = .ptr n 0 ∧ ρ 3 = .agg (mc m) ∧ WR σ' n (inew x m) ∧ Kept (· = n) σ σ') ?_ ?_
  · have old : (m.ix = x.i ∧ m.lt = x.t ∧ m.tot = x.tot) → inew x m = x := fun hs => by unfold inew; rw [if_pos hs]
    have new : ¬ (m.ix = x.i ∧ m.lt = x.t ∧ m.tot = x.tot) → inew x m = ⟨m.ix, m.lt, m.tot, []⟩ := fun hs => by unfold inew; rw [if_neg hs]
    have k3 : ∀ a b c, Kept (· = n) σ (((σ.bump.put n a).put n b).put n c) := fun a b c => ((k0.put (.inl rfl) (by first | omega | (simp; omega)) _).put (.inl rfl) (by first | omega | (simp; omega)) _).put (.inl rfl) (by first | omega | (simp; omega)) _
    unfold WR
    by_cases h1 : m.ix = x.i
    · have b1 : (m.ix != x.i) = false := by simp [h1]
      by_cases h2 : m.lt = x.t
      · have b2 : (m.lt != x.t) = false := by simp [h2]
        by_cases h3 : m.tot = x.tot
        · have b3 : (m.tot != x.tot) = false := by simp [h3]
          rw [old ⟨h1, h2, h3⟩]
          simp -implicitDefEqProofs (disch := first | exact nbf rfl | exact nbt rfl | (simp only [ne_eq, reduceCtorEq, not_false_eq_true]; done) | omega | (simp -implicitDefEqProofs only [St.n_push, St.n_put, St.n_bump, List.length_set] <;> omega) | fail) only [b1, b2, b3, g, aCallv, aPtrEq, XOp.kind, AOp.run, AO.eval, put, reduceCtorEq, aInt, Nat.reduceEqDiff, initEnv, V.bool, V.i64, resultsOf, AR.get, aExtract, aUn, Int.reduceEq, Int.reduceBEq, Int.reduceBNe, aBox, aLoad, aStore, aPart, aPlace, aArrAddr, aArrIdx, aIdx, aLenStr, aConv, aFold, aMinMax, aEqV, aNilCheck, fillV, aEqBool, aEqInt, aEqStr, Nat.reduceAdd, Nat.reduceLeDiff, Nat.reduceMul, Int.reduceLT, Int.reduceLE, Int.reduceToNat, Int.reduceGT, Int.reduceGE, Int.reduceNeg, Int.reduceAdd, Int.reduceSub, wrap64, chkAdd, effAdd, AOp.kind, chkAll, chkSee, Nat.reduceLT, zP.down, zQ.down]
          refine ⟨_, _, rfl, ?_, ?_, g0, k0⟩
          all_goals (simp -implicitDefEqProofs (disch := first | exact nbf rfl | exact nbt rfl | (simp only [ne_eq, reduceCtorEq, not_false_eq_true]; done) | omega | (simp -implicitDefEqProofs only [St.n_push, St.n_put, St.n_bump, List.length_set] <;> omega) | fail) only [mc, aCallv, aPtrEq, XOp.kind, AOp.run, AO.eval, put, reduceCtorEq, aInt, Nat.reduceEqDiff, initEnv, V.bool, V.i64, resultsOf, AR.get, aExtract, aUn, Int.reduceEq, Int.reduceBEq, Int.reduceBNe, aBox, aLoad, aStore, aPart, aPlace, aArrAddr, aArrIdx, aIdx, aLenStr, aConv, aFold, aMinMax, aEqV, aNilCheck, fillV, aEqBool, aEqInt, aEqStr, Nat.reduceAdd, Nat.reduceLeDiff, Nat.reduceMul, Int.reduceLT, Int.reduceLE, Int.reduceToNat, Int.reduceGT, Int.reduceGE, Int.reduceNeg, Int.reduceAdd, Int.reduceSub, wrap64, chkAdd, effAdd, AOp.kind, chkAll, chkSee, Nat.reduceLT, zP.down, zQ.down]; done)
        · have b3 : (m.tot != x.tot) = true := by simp [h3]
          rw [new fun h => h3 h.2.2]
          simp -implicitDefEqProofs (disch := first | exact nbf rfl | exact nbt rfl | (simp only [ne_eq, reduceCtorEq, not_false_eq_true]; done) | omega | (simp -implicitDefEqProofs only [St.n_push, St.n_put, St.n_bump, List.length_set] <;> omega) | fail) only [b1, b2, b3, g, aCallv, aPtrEq, XOp.kind, AOp.run, AO.eval, put, reduceCtorEq, aInt, Nat.reduceEqDiff, initEnv, V.bool, V.i64, resultsOf, AR.get, aExtract, aUn, Int.reduceEq, Int.reduceBEq, Int.reduceBNe, aBox, aLoad, aStore, aPart, aPlace, aArrAddr, aArrIdx, aIdx, aLenStr, aConv, aFold, aMinMax, aEqV, aNilCheck, fillV, aEqBool, aEqInt, aEqStr, Nat.reduceAdd, Nat.reduceLeDiff, Nat.reduceMul, Int.reduceLT, Int.reduceLE, Int.reduceToNat, Int.reduceGT, Int.reduceGE, Int.reduceNeg, Int.reduceAdd, Int.reduceSub, wrap64, chkAdd, effAdd, AOp.kind, chkAll, chkSee, Nat.reduceLT, zP.down, zQ.down]
          refine ⟨_, _, rfl, ?_, ?_, ?_, k3 _ _ _⟩
          all_goals (simp -implicitDefEqProofs (disch := first | exact nbf rfl | exact nbt rfl | (simp only [ne_eq, reduceCtorEq, not_false_eq_true]; done) | omega | (simp -implicitDefEqProofs only [St.n_push, St.n_put, St.n_bump, List.length_set] <;> omega) | fail) only [mc, aCallv, aPtrEq, XOp.kind, AOp.run, AO.eval, put, reduceCtorEq, aInt, Nat.reduceEqDiff, initEnv, V.bool, V.i64, resultsOf, AR.get, aExtract, aUn, Int.reduceEq, Int.reduceBEq, Int.reduceBNe, aBox, aLoad, aStore, aPart, aPlace, aArrAddr, aArrIdx, aIdx, aLenStr, aConv, aFold, aMinMax, aEqV, aNilCheck, fillV, aEqBool, aEqInt, aEqStr, Nat.reduceAdd, Nat.reduceLeDiff, Nat.reduceMul, Int.reduceLT, Int.reduceLE, Int.reduceToNat, Int.reduceGT, Int.reduceGE, Int.reduceNeg, Int.reduceAdd, Int.reduceSub, wrap64, chkAdd, effAdd, AOp.kind, chkAll, chkSee, Nat.reduceLT, zP.down, zQ.down]; done)
      · have b2 : (m.lt != x.t) = true := by simp [h2]
        rw [new fun h => h2 h.2.1]
        simp -implicitDefEqProofs (disch := first | exact nbf rfl | exact nbt rfl | (simp only [ne_eq, reduceCtorEq, not_false_eq_true]; done) | omega | (simp -implicitDefEqProofs only [St.n_push, St.n_put, St.n_bump, List.length_set] <;> omega) | fail) only [b1, b2, g, aCallv, aPtrEq, XOp.kind, AOp.run, AO.eval, put, reduceCtorEq, aInt, Nat.reduceEqDiff, initEnv, V.bool, V.i64, resultsOf, AR.get, aExtract, aUn, Int.reduceEq, Int.reduceBEq, Int.reduceBNe, aBox, aLoad, aStore, aPart, aPlace, aArrAddr, aArrIdx, aIdx, aLenStr, aConv, aFold, aMinMax, aEqV, aNilCheck, fillV, aEqBool, aEqInt, aEqStr, Nat.reduceAdd, Nat.reduceLeDiff, Nat.reduceMul, Int.reduceLT, Int.reduceLE, Int.reduceToNat, Int.reduceGT, Int.reduceGE, Int.reduceNeg, Int.reduceAdd, Int.reduceSub, wrap64, chkAdd, effAdd, AOp.kind, chkAll, chkSee, Nat.reduceLT, zP.down, zQ.down]
        refine ⟨_, _, rfl, ?_, ?_, ?_, k3 _ _ _⟩
        all_goals (simp -implicitDefEqProofs (disch := first | exact nbf rfl | exact nbt rfl | (simp only [ne_eq, reduceCtorEq, not_false_eq_true]; done) | omega | (simp -implicitDefEqProofs only [St.n_push, St.n_put, St.n_bump, List.length_set] <;> omega) | fail) only [mc, aCallv, aPtrEq, XOp.kind, AOp.run, AO.eval, put, reduceCtorEq, aInt, Nat.reduceEqDiff, initEnv, V.bool, V.i64, resultsOf, AR.get, aExtract, aUn, Int.reduceEq, Int.reduceBEq, Int.reduceBNe, aBox, aLoad, aStore, aPart, aPlace, aArrAddr, aArrIdx, aIdx, aLenStr, aConv, aFold, aMinMax, aEqV, aNilCheck, fillV, aEqBool, aEqInt, aEqStr, Nat.reduceAdd, Nat.reduceLeDiff, Nat.reduceMul, Int.reduceLT, Int.reduceLE, Int.reduceToNat, Int.reduceGT, Int.reduceGE, Int.reduceNeg, Int.reduceAdd, Int.reduceSub, wrap64, chkAdd, effAdd, AOp.kind, chkAll, chkSee, Nat.reduceLT, zP.down, zQ.down]; done)
    · have b1 : (m.ix != x.i) = true := by simp [h1]
      rw [new fun h => h1 h.1]
      simp -implicitDefEqProofs (disch := first | exact nbf rfl | exact nbt rfl | (simp only [ne_eq, reduceCtorEq, not_false_eq_true]; done) | omega | (simp -implicitDefEqProofs only [St.n_push, St.n_put, St.n_bump, List.length_set] <;> omega) | fail) only [b1, g, aCallv, aPtrEq, XOp.kind, AOp.run, AO.eval, put, reduceCtorEq, aInt, Nat.reduceEqDiff, initEnv, V.bool, V.i64, resultsOf, AR.get, aExtract, aUn, Int.reduceEq, Int.reduceBEq, Int.reduceBNe, aBox, aLoad, aStore, aPart, aPlace, aArrAddr, aArrIdx, aIdx, aLenStr, aConv, aFold, aMinMax, aEqV, aNilCheck, fillV, aEqBool, aEqInt, aEqStr, Nat.reduceAdd, Nat.reduceLeDiff, Nat.reduceMul, Int.reduceLT, Int.reduceLE, Int.reduceToNat, Int.reduceGT, Int.reduceGE, Int.reduceNeg, Int.reduceAdd, Int.reduceSub, wrap64, chkAdd, effAdd, AOp.kind, chkAll, chkSee, Nat.reduceLT, zP.down, zQ.down]
      refine ⟨_, _, rfl, ?_, ?_, ?_, k3 _ _ _⟩
      all_goals (simp -implicitDefEqProofs (disch := first | exact nbf rfl | exact nbt rfl | (simp only [ne_eq, reduceCtorEq, not_false_eq_true]; done) | omega | (simp -implicitDefEqProofs only [St.n_push, St.n_put, St.n_bump, List.length_set] <;> omega) | fail) only [mc, aCallv, aPtrEq, XOp.kind, AOp.run, AO.eval, put, reduceCtorEq, aInt, Nat.reduceEqDiff, initEnv, V.bool, V.i64, resultsOf, AR.get, aExtract, aUn, Int.reduceEq, Int.reduceBEq, Int.reduceBNe, aBox, aLoad, aStore, aPart, aPlace, aArrAddr, aArrIdx, aIdx, aLenStr, aConv, aFold, aMinMax, aEqV, aNilCheck, fillV, aEqBool, aEqInt, aEqStr, Nat.reduceAdd, Nat.reduceLeDiff, Nat.reduceMul, Int.reduceLT, Int.reduceLE, Int.reduceToNat, Int.reduceGT, Int.reduceGE, Int.reduceNeg, Int.reduceAdd, Int.reduceSub, wrap64, chkAdd, effAdd, AOp.kind, chkAll, chkSee, Nat.reduceLT, zP.down, zQ.down]; done)
  · rintro _ ⟨ρ, σ', rfl, e0, e3, g', kp⟩
    generalize inew x m = y at *
    have hle := hok.le
    have hhi := hok.hi
    unfold WR at g'
    have gl2 := St.get_lt g'
    have w1 : IntKind.i64.wrap (y.tot - (y.tx.length : Int)) = y.tot - (y.tx.length : Int) := wrap64 (by omega) (by omega)
    by_cases q : m.at' = y.tx.length ∧ (m.dat.length : Int) ≤ y.tot - y.tx.length
    · have hi : iadd y m = { y with tx := y.tx ++ m.dat } := by unfold iadd; rw [if_pos q]
      rw [hi]
      have b1 := beq_iff_eq.2 q.1
      have b2 : decide ((m.dat.length : Int) ≤ y.tot - y.tx.length) = true := by simpa using q.2
      have ha : aBin .add (.str y.tx) (.str m.dat) = some (.str (y.tx ++ m.dat)) := by
        have : ¬ (y.tx.length + m.dat.length > 9223372036854775807) := by omega
        simp only [aBin, aStr, this, if_false]
      have hp : ∀ z, z = [.sc (.int .i64 y.i), .sc (.int .i64 y.t), .sc (.int .i64 y.tot), .str (y.tx ++ m.dat)] → WR (σ'.put n (some (.cells z))) n { y with tx := y.tx ++ m.dat } ∧ Kept (· = n) σ (σ'.put n (some (.cells z))) := fun z hz =>
        ⟨by subst hz; exact get_put_self g', kp.put (.inl rfl) gl2 _⟩
      by_cases c : ((y.tx ++ m.dat).length : Int) = y.tot
      · have dc : (((y.tx ++ m.dat).length : Int) == y.tot) = true := by simpa using c
        have nc : ¬ (((y.tx ++ m.dat).length : Int) < y.tot) := by omega
        simp -implicitDefEqProofs (disch := first | exact nbf rfl | exact nbt rfl | (simp only [ne_eq, reduceCtorEq, not_false_eq_true]; done) | omega | (simp -implicitDefEqProofs only [St.n_push, St.n_put, St.n_bump, List.length_set] <;> omega) | fail) only [e0, e3, g', mc, b1, b2, w1, ha, dc, itell, nc, ot, aCallv, aPtrEq, XOp.kind, AOp.run, AO.eval, put, reduceCtorEq, aInt, Nat.reduceEqDiff, initEnv, V.bool, V.i64, resultsOf, AR.get, aExtract, aUn, Int.reduceEq, Int.reduceBEq, Int.reduceBNe, aBox, aLoad, aStore, aPart, aPlace, aArrAddr, aArrIdx, aIdx, aLenStr, aConv, aFold, aMinMax, aEqV, aNilCheck, fillV, aEqBool, aEqInt, aEqStr, Nat.reduceAdd, Nat.reduceLeDiff, Nat.reduceMul, Int.reduceLT, Int.reduceLE, Int.reduceToNat, Int.reduceGT, Int.reduceGE, Int.reduceNeg, Int.reduceAdd, Int.reduceSub, wrap64, chkAdd, effAdd, AOp.kind, chkAll, chkSee, Nat.reduceLT, zP.down, zQ.down]
        exact hp _ rfl
      · have dc : (((y.tx ++ m.dat).length : Int) == y.tot) = false := beq_eq_false_iff_ne.2 c
        have nc : (((y.tx ++ m.dat).length : Int) < y.tot) := by rw [List.length_append] at c ⊢; omega
        simp -implicitDefEqProofs (disch := first | exact nbf rfl | exact nbt rfl | (simp only [ne_eq, reduceCtorEq, not_false_eq_true]; done) | omega | (simp -implicitDefEqProofs only [St.n_push, St.n_put, St.n_bump, List.length_set] <;> omega) | fail) only [e0, e3, g', mc, b1, b2, w1, ha, dc, itell, nc, ot, aCallv, aPtrEq, XOp.kind, AOp.run, AO.eval, put, reduceCtorEq, aInt, Nat.reduceEqDiff, initEnv, V.bool, V.i64, resultsOf, AR.get, aExtract, aUn, Int.reduceEq, Int.reduceBEq, Int.reduceBNe, aBox, aLoad, aStore, aPart, aPlace, aArrAddr, aArrIdx, aIdx, aLenStr, aConv, aFold, aMinMax, aEqV, aNilCheck, fillV, aEqBool, aEqInt, aEqStr, Nat.reduceAdd, Nat.reduceLeDiff, Nat.reduceMul, Int.reduceLT, Int.reduceLE, Int.reduceToNat, Int.reduceGT, Int.reduceGE, Int.reduceNeg, Int.reduceAdd, Int.reduceSub, wrap64, chkAdd, effAdd, AOp.kind, chkAll, chkSee, Nat.reduceLT, zP.down, zQ.down]
        exact hp _ rfl
    · have hi : iadd y m = y := by unfold iadd; rw [if_neg q]
      rw [hi]
      have hq : WR σ' n y ∧ Kept (· = n) σ σ' := ⟨g', kp⟩
      by_cases q1 : m.at' = y.tx.length
      · have b1 := beq_iff_eq.2 q1
        have b2 : decide ((m.dat.length : Int) ≤ y.tot - y.tx.length) = false := by
          simp only [decide_eq_false_iff_not]
          exact fun h => q ⟨q1, h⟩
        by_cases c : (y.tx.length : Int) = y.tot
        · have dc : ((y.tx.length : Int) == y.tot) = true := by simpa using c
          have nc : ¬ ((y.tx.length : Int) < y.tot) := by omega
          simp -implicitDefEqProofs (disch := first | exact nbf rfl | exact nbt rfl | (simp only [ne_eq, reduceCtorEq, not_false_eq_true]; done) | omega | (simp -implicitDefEqProofs only [St.n_push, St.n_put, St.n_bump, List.length_set] <;> omega) | fail) only [e0, e3, g', mc, b1, b2, w1, dc, itell, nc, ot, aCallv, aPtrEq, XOp.kind, AOp.run, AO.eval, put, reduceCtorEq, aInt, Nat.reduceEqDiff, initEnv, V.bool, V.i64, resultsOf, AR.get, aExtract, aUn, Int.reduceEq, Int.reduceBEq, Int.reduceBNe, aBox, aLoad, aStore, aPart, aPlace, aArrAddr, aArrIdx, aIdx, aLenStr, aConv, aFold, aMinMax, aEqV, aNilCheck, fillV, aEqBool, aEqInt, aEqStr, Nat.reduceAdd, Nat.reduceLeDiff, Nat.reduceMul, Int.reduceLT, Int.reduceLE, Int.reduceToNat, Int.reduceGT, Int.reduceGE, Int.reduceNeg, Int.reduceAdd, Int.reduceSub, wrap64, chkAdd, effAdd, AOp.kind, chkAll, chkSee, Nat.reduceLT, zP.down, zQ.down]
          exact hq
        · have dc : ((y.tx.length : Int) == y.tot) = false := beq_eq_false_iff_ne.2 c
          have nc : ((y.tx.length : Int) < y.tot) := by omega
          simp -implicitDefEqProofs (disch := first | exact nbf rfl | exact nbt rfl | (simp only [ne_eq, reduceCtorEq, not_false_eq_true]; done) | omega | (simp -implicitDefEqProofs only [St.n_push, St.n_put, St.n_bump, List.length_set] <;> omega) | fail) only [e0, e3, g', mc, b1, b2, w1, dc, itell, nc, ot, aCallv, aPtrEq, XOp.kind, AOp.run, AO.eval, put, reduceCtorEq, aInt, Nat.reduceEqDiff, initEnv, V.bool, V.i64, resultsOf, AR.get, aExtract, aUn, Int.reduceEq, Int.reduceBEq, Int.reduceBNe, aBox, aLoad, aStore, aPart, aPlace, aArrAddr, aArrIdx, aIdx, aLenStr, aConv, aFold, aMinMax, aEqV, aNilCheck, fillV, aEqBool, aEqInt, aEqStr, Nat.reduceAdd, Nat.reduceLeDiff, Nat.reduceMul, Int.reduceLT, Int.reduceLE, Int.reduceToNat, Int.reduceGT, Int.reduceGE, Int.reduceNeg, Int.reduceAdd, Int.reduceSub, wrap64, chkAdd, effAdd, AOp.kind, chkAll, chkSee, Nat.reduceLT, zP.down, zQ.down]
          exact hq
      · have b1 := beq_eq_false_iff_ne.2 q1
        by_cases c : (y.tx.length : Int) = y.tot
        · have dc : ((y.tx.length : Int) == y.tot) = true := by simpa using c
          have nc : ¬ ((y.tx.length : Int) < y.tot) := by omega
          simp -implicitDefEqProofs (disch := first | exact nbf rfl | exact nbt rfl | (simp only [ne_eq, reduceCtorEq, not_false_eq_true]; done) | omega | (simp -implicitDefEqProofs only [St.n_push, St.n_put, St.n_bump, List.length_set] <;> omega) | fail) only [e0, e3, g', mc, b1, w1, dc, itell, nc, ot, aCallv, aPtrEq, XOp.kind, AOp.run, AO.eval, put, reduceCtorEq, aInt, Nat.reduceEqDiff, initEnv, V.bool, V.i64, resultsOf, AR.get, aExtract, aUn, Int.reduceEq, Int.reduceBEq, Int.reduceBNe, aBox, aLoad, aStore, aPart, aPlace, aArrAddr, aArrIdx, aIdx, aLenStr, aConv, aFold, aMinMax, aEqV, aNilCheck, fillV, aEqBool, aEqInt, aEqStr, Nat.reduceAdd, Nat.reduceLeDiff, Nat.reduceMul, Int.reduceLT, Int.reduceLE, Int.reduceToNat, Int.reduceGT, Int.reduceGE, Int.reduceNeg, Int.reduceAdd, Int.reduceSub, wrap64, chkAdd, effAdd, AOp.kind, chkAll, chkSee, Nat.reduceLT, zP.down, zQ.down]
          exact hq
        · have dc : ((y.tx.length : Int) == y.tot) = false := beq_eq_false_iff_ne.2 c
          have nc : ((y.tx.length : Int) < y.tot) := by omega
          simp -implicitDefEqProofs (disch := first | exact nbf rfl | exact nbt rfl | (simp only [ne_eq, reduceCtorEq, not_false_eq_true]; done) | omega | (simp -implicitDefEqProofs only [St.n_push, St.n_put, St.n_bump, List.length_set] <;> omega) | fail) only [e0, e3, g', mc, b1, w1, dc, itell, nc, ot, aCallv, aPtrEq, XOp.kind, AOp.run, AO.eval, put, reduceCtorEq, aInt, Nat.reduceEqDiff, initEnv, V.bool, V.i64, resultsOf, AR.get, aExtract, aUn, Int.reduceEq, Int.reduceBEq, Int.reduceBNe, aBox, aLoad, aStore, aPart, aPlace, aArrAddr, aArrIdx, aIdx, aLenStr, aConv, aFold, aMinMax, aEqV, aNilCheck, fillV, aEqBool, aEqInt, aEqStr, Nat.reduceAdd, Nat.reduceLeDiff, Nat.reduceMul, Int.reduceLT, Int.reduceLE, Int.reduceToNat, Int.reduceGT, Int.reduceGE, Int.reduceNeg, Int.reduceAdd, Int.reduceSub, wrap64, chkAdd, effAdd, AOp.kind, chkAll, chkSee, Nat.reduceLT, zP.down, zQ.down]
          exact hq
end Go.Proofs.Ytjcobnjnjliehaa.sn
