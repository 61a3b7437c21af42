/-
  Snapshots in pieces: an inbox, the program's and the document's.
  SnapPieces: its run.
  SnapPieces: its run.
  SnapPieces: its run.
  SnapComes: its run.
  Snapshots: a file's bytes.
  Snapshots: what stands in a file.
  Snapshots: loaded.
  Snapshots: saved.
-/
import Derived.Test.YtjcobnjnjliehaaAbB
import Derived.Test.YtjcobnjnjliehaaAbI
import Derived.Test.YtjcobnjnjliehaaAbC
import Derived.KernelRfl
import Derived.Test.YtjcobnjnjliehaaAbA
import Derived.Test.YtjcobnjnjliehaaFrU
import Derived.Test.YtjcobnjnjliehaaDiskU
namespace Go.Proofs.Ytjcobnjnjliehaa.sn
open Go.Ab
set_option maxRecDepth 100000
set_option maxHeartbeats 8000000
set_option linter.unusedSimpArgs false
set_option linter.unusedVariables false

/-- A message. -/
structure Ms where
  k : Int
  fr : Int
  to : Int
  te : Int
  ix : Int
  lt : Int
  co : Int
  st : Int
  gd : Bool
  en : V
  at' : Int
  tot : Int
  dat : List UInt8
  talk : Int
  f1 : Int
  f2 : Int
  sq : Int
  cl : Int
  rq : Int
  op : Int
  er : Int
  le : Int
def mc (m : Ms) : List V := [.sc (.int .u8 m.k), .sc (.int .i64 m.fr), .sc (.int .i64 m.to), .sc (.int .i64 m.te), .sc (.int .i64 m.ix), .sc (.int .i64 m.lt), .sc (.int .i64 m.co), .sc (.int .i64 m.st), .sc (.bool m.gd), m.en, .sc (.int .i64 m.at'), .sc (.int .i64 m.tot), .str m.dat, .sc (.int .i64 m.talk), .sc (.int .i64 m.f1), .sc (.int .i64 m.f2), .sc (.int .i64 m.sq), .sc (.int .i64 m.cl), .sc (.int .i64 m.rq), .sc (.int .u8 m.op), .sc (.int .i64 m.er), .sc (.int .i64 m.le)]
/-- An inbox. -/
structure IB where
  i : Int
  t : Int
  tot : Int
  tx : List UInt8
def I0 : IB := ⟨0, 0, 0, []⟩
structure IB.Ok (x : IB) : Prop where
  le : x.tx.length ≤ x.tot
  hi : x.tot ≤ 262144
theorem I0.ok : I0.Ok := ⟨by decide, by decide⟩
def ibad (m : Ms) : Prop := m.tot < 0 ∨ m.tot > 262144 ∨ m.at' < 0 ∨ m.ix < 1
instance (m : Ms) : Decidable (ibad m) := by unfold ibad; infer_instance
def inew (x : IB) (m : Ms) : IB := if m.ix = x.i ∧ m.lt = x.t ∧ m.tot = x.tot then x else ⟨m.ix, m.lt, m.tot, []⟩
def iadd (x : IB) (m : Ms) : IB := if m.at' = x.tx.length ∧ m.dat.length ≤ x.tot - x.tx.length then { x with tx := x.tx ++ m.dat } else x
def itell (x : IB) : Int × List UInt8 × Bool := if (x.tx.length : Int) < x.tot then (x.tx.length, [], false) else (x.tot, x.tx, true)
def iput (x : IB) (m : Ms) : IB := if ibad m then x else iadd (inew x m) m
def iout (x : IB) (m : Ms) : Int × List UInt8 × Bool := if ibad m then (0, [], false) else itell (iput x m)
theorem inew_ok {x : IB} (h : x.Ok) {m : Ms} (hm : ¬ ibad m) : (inew x m).Ok := by
  unfold ibad at hm
  unfold inew
  split
  · exact h
  · exact ⟨by simp; omega, by simp; omega⟩
theorem iadd_ok {x : IB} (h : x.Ok) {m : Ms} : (iadd x m).Ok := by
  unfold iadd
  split
  · rename_i hq
    exact ⟨by simp only [List.length_append]; omega, h.hi⟩
  · exact h
theorem iput_ok {x : IB} (h : x.Ok) (m : Ms) : (iput x m).Ok := by
  unfold iput
  split
  · exact h
  · rename_i hq; exact iadd_ok (inew_ok h hq)
def ot (r : Int × List UInt8 × Bool) : V := .tup [.sc (.int .i64 r.1), .str r.2.1, .sc (.bool r.2.2)]

/-- The program's inbox at n. -/
def IR (lo : Nat) (σ : St) (n : Nat) (x : IB) : Prop := ∃ v, σ.get n = some (.cells [.sc (.int .i64 x.i), .sc (.int .i64 x.t), .sc (.int .i64 x.tot), v]) ∧ Ow lo σ 1 v (x.tx.map bc)
theorem pnil (σ : St) (n : Nat) : aEqV σ .ptr (.ptr n 0) (.sc .nilP) = some false := rfl
abbrev q2 : EqT := .struct [(0, none, .int .i64), (1, none, .int .i64)]
theorem eq2 (σ : St) (a b c d : Int) : aEqV σ q2 (.agg [.sc (.int .i64 a), .sc (.int .i64 b)]) (.agg [.sc (.int .i64 c), .sc (.int .i64 d)]) = some (a == c && b == d) := by
  simp [aEqV, aEqFs, aPart, aEqInt]

theorem put_ok (k : Nat) (ys : YlF) (σ : St) (n lo : Nat) (x : IB) (m : Ms) (h : IR lo σ n x) (hx : x.Ok) (hen : Cell1 m.en) (hlo : lo ≤ σ.n) (hn : n < lo) (hd : m.dat.length ≤ 1000000) :
    W (callY Tab.tb (k + 1) ys 11 [.ptr n 0, .agg (mc m)] σ) fun r => r.1 = ot (iout x m) ∧ IR lo r.2 n (iput x m) ∧ (∀ o y, σ.get o = some y → o ≠ n → o < lo → r.2.get o = some y) ∧ σ.n ≤ r.2.n := by
  rw [s_call (af := Tab.b11) rfl (Nat.le_of_ble_eq_true rfl)]
  generalize callY Tab.tb k = cy
  obtain ⟨v, g, how⟩ := h
  have e1 := hen.1
  have e2 := hen.2
  have gl := St.get_lt g
  by_cases hb : ibad m
  · have hb' := hb
    unfold ibad at hb'
    have out : iout x m = (0, [], false) := by unfold iout; rw [if_pos hb]
    have pin : iput x m = x := by unfold iput; rw [if_pos hb]
    rw [out, pin]
    by_cases c1 : m.tot < 0
    · have d1 : decide (m.tot < 0) = true := by simpa using c1
      simp -implicitDefEqProofs (disch := first | exact nbf rfl | exact nbt rfl | (simp only [ne_eq, reduceCtorEq, not_false_eq_true]; done) | omega | (simp -implicitDefEqProofs only [St.n_push, St.n_put, St.n_bump, List.length_set] <;> omega) | fail) only [Tab.b11, mc, e1, e2, pnil, d1, ot, aCallv, aPtrEq, XOp.kind, AOp.run, AO.eval, put, reduceCtorEq, aInt, Nat.reduceEqDiff, initEnv, V.bool, V.i64, resultsOf, AR.get, aExtract, aUn, Int.reduceEq, Int.reduceBEq, Int.reduceBNe, aBox, aLoad, aStore, aPart, aPlace, aArrAddr, aArrIdx, aIdx, aLenStr, aConv, aFold, aMinMax, aNilCheck, fillV, aEqBool, aEqInt, aEqStr, Nat.reduceAdd, Nat.reduceLeDiff, Nat.reduceMul, Int.reduceLT, Int.reduceLE, Int.reduceToNat, Int.reduceGT, Int.reduceGE, Int.reduceNeg, Int.reduceAdd, Int.reduceSub, wrap64, chkAdd, effAdd, AOp.kind, chkAll, chkSee, Nat.reduceLT, zP.down, zQ.down]
      exact ⟨⟨v, by simpa [St.get_bump] using g, how.kept0 (Kept.refl _ _).bump.bump⟩, fun o y h _ _ => by simpa [St.get_bump] using h, by first | omega | (simp only [St.n_bump]; omega)⟩
    have d1 : decide (m.tot < 0) = false := by simpa using c1
    by_cases c2 : m.tot > 262144
    · have d2 : decide (m.tot > 262144) = true := by simpa using c2
      simp -implicitDefEqProofs (disch := first | exact nbf rfl | exact nbt rfl | (simp only [ne_eq, reduceCtorEq, not_false_eq_true]; done) | omega | (simp -implicitDefEqProofs only [St.n_push, St.n_put, St.n_bump, List.length_set] <;> omega) | fail) only [Tab.b11, mc, e1, e2, pnil, d1, d2, ot, aCallv, aPtrEq, XOp.kind, AOp.run, AO.eval, put, reduceCtorEq, aInt, Nat.reduceEqDiff, initEnv, V.bool, V.i64, resultsOf, AR.get, aExtract, aUn, Int.reduceEq, Int.reduceBEq, Int.reduceBNe, aBox, aLoad, aStore, aPart, aPlace, aArrAddr, aArrIdx, aIdx, aLenStr, aConv, aFold, aMinMax, aNilCheck, fillV, aEqBool, aEqInt, aEqStr, Nat.reduceAdd, Nat.reduceLeDiff, Nat.reduceMul, Int.reduceLT, Int.reduceLE, Int.reduceToNat, Int.reduceGT, Int.reduceGE, Int.reduceNeg, Int.reduceAdd, Int.reduceSub, wrap64, chkAdd, effAdd, AOp.kind, chkAll, chkSee, Nat.reduceLT, zP.down, zQ.down]
      exact ⟨⟨v, by simpa [St.get_bump] using g, how.kept0 (Kept.refl _ _).bump.bump⟩, fun o y h _ _ => by simpa [St.get_bump] using h, by first | omega | (simp only [St.n_bump]; omega)⟩
    have d2 : decide (m.tot > 262144) = false := by simpa using c2
    by_cases c3 : m.at' < 0
    · have d3 : decide (m.at' < 0) = true := by simpa using c3
      simp -implicitDefEqProofs (disch := first | exact nbf rfl | exact nbt rfl | (simp only [ne_eq, reduceCtorEq, not_false_eq_true]; done) | omega | (simp -implicitDefEqProofs only [St.n_push, St.n_put, St.n_bump, List.length_set] <;> omega) | fail) only [Tab.b11, mc, e1, e2, pnil, d1, d2, d3, ot, aCallv, aPtrEq, XOp.kind, AOp.run, AO.eval, put, reduceCtorEq, aInt, Nat.reduceEqDiff, initEnv, V.bool, V.i64, resultsOf, AR.get, aExtract, aUn, Int.reduceEq, Int.reduceBEq, Int.reduceBNe, aBox, aLoad, aStore, aPart, aPlace, aArrAddr, aArrIdx, aIdx, aLenStr, aConv, aFold, aMinMax, aNilCheck, fillV, aEqBool, aEqInt, aEqStr, Nat.reduceAdd, Nat.reduceLeDiff, Nat.reduceMul, Int.reduceLT, Int.reduceLE, Int.reduceToNat, Int.reduceGT, Int.reduceGE, Int.reduceNeg, Int.reduceAdd, Int.reduceSub, wrap64, chkAdd, effAdd, AOp.kind, chkAll, chkSee, Nat.reduceLT, zP.down, zQ.down]
      exact ⟨⟨v, by simpa [St.get_bump] using g, how.kept0 (Kept.refl _ _).bump.bump⟩, fun o y h _ _ => by simpa [St.get_bump] using h, by first | omega | (simp only [St.n_bump]; omega)⟩
    have d3 : decide (m.at' < 0) = false := by simpa using c3
    have d4 : decide (m.ix < 1) = true := by simp; omega
    simp -implicitDefEqProofs (disch := first | exact nbf rfl | exact nbt rfl | (simp only [ne_eq, reduceCtorEq, not_false_eq_true]; done) | omega | (simp -implicitDefEqProofs only [St.n_push, St.n_put, St.n_bump, List.length_set] <;> omega) | fail) only [Tab.b11, mc, e1, e2, pnil, d1, d2, d3, d4, ot, aCallv, aPtrEq, XOp.kind, AOp.run, AO.eval, put, reduceCtorEq, aInt, Nat.reduceEqDiff, initEnv, V.bool, V.i64, resultsOf, AR.get, aExtract, aUn, Int.reduceEq, Int.reduceBEq, Int.reduceBNe, aBox, aLoad, aStore, aPart, aPlace, aArrAddr, aArrIdx, aIdx, aLenStr, aConv, aFold, aMinMax, aNilCheck, fillV, aEqBool, aEqInt, aEqStr, Nat.reduceAdd, Nat.reduceLeDiff, Nat.reduceMul, Int.reduceLT, Int.reduceLE, Int.reduceToNat, Int.reduceGT, Int.reduceGE, Int.reduceNeg, Int.reduceAdd, Int.reduceSub, wrap64, chkAdd, effAdd, AOp.kind, chkAll, chkSee, Nat.reduceLT, zP.down, zQ.down]
    exact ⟨⟨v, by simpa [St.get_bump] using g, how.kept0 (Kept.refl _ _).bump.bump⟩, fun o y h _ _ => by simpa [St.get_bump] using h, by first | omega | (simp only [St.n_bump]; omega)⟩
  have out : iout x m = itell (iput x m) := by unfold iout; rw [if_neg hb]
  have pin : iput x m = iadd (inew x m) m := by unfold iput; rw [if_neg hb]
  have hok := inew_ok hx hb
  rw [out, pin]
  unfold ibad at hb
  have d1 : decide (m.tot < 0) = false := by simp; omega
  have d2 : decide (m.tot > 262144) = false := by simp; omega
  have d3 : decide (m.at' < 0) = false := by simp; omega
  have d4 : decide (m.ix < 1) = false := by simp; omega
  have gb : σ.bump.bump.get n = some (.cells [.sc (.int .i64 x.i), .sc (.int .i64 x.t), .sc (.int .i64 x.tot), v]) := by rw [St.get_bump, St.get_bump]; exact g
  simp -implicitDefEqProofs (disch := first | exact nbf rfl | exact nbt rfl | (simp only [ne_eq, reduceCtorEq, not_false_eq_true]; done) | omega | (simp -implicitDefEqProofs only [St.n_push, St.n_put, St.n_bump, List.length_set] <;> omega) | fail) only [Tab.b11, mc, e1, e2, pnil, d1, d2, d3, d4, g, eq2, aCallv, aPtrEq, XOp.kind, AOp.run, AO.eval, put, reduceCtorEq, aInt, Nat.reduceEqDiff, initEnv, V.bool, V.i64, resultsOf, AR.get, aExtract, aUn, Int.reduceEq, Int.reduceBEq, Int.reduceBNe, aBox, aLoad, aStore, aPart, aPlace, aArrAddr, aArrIdx, aIdx, aLenStr, aConv, aFold, aMinMax, aNilCheck, fillV, aEqBool, aEqInt, aEqStr, Nat.reduceAdd, Nat.reduceLeDiff, Nat.reduceMul, Int.reduceLT, Int.reduceLE, Int.reduceToNat, Int.reduceGT, Int.reduceGE, Int.reduceNeg, Int.reduceAdd, Int.reduceSub, wrap64, chkAdd, effAdd, AOp.kind, chkAll, chkSee, Nat.reduceLT, zP.down, zQ.down]
  refine w_fin ?_
  refine w_seq ?_
  refine W.mono (Q := fun r => ∃ (ρ : Env) (σ' : St) (v' : V), r = ((.normal : Ex), ρ, σ') ∧ ρ 0 = .ptr n 0 ∧ ρ 3 = .agg (mc m) ∧ σ'.get n = some (.cells [.sc (.int .i64 (inew x m).i), .sc (.int .i64 (inew x m).t), .sc (.int .i64 (inew x m).tot), v']) ∧ Ow lo σ' 1 v' ((inew x m).tx.map bc) ∧ Kept (· = n) σ σ') ?_ ?_
  · by_cases hs : m.ix = x.i ∧ m.lt = x.t ∧ m.tot = x.tot
    · have hi : inew x m = x := by unfold inew; rw [if_pos hs]
      rw [hi]
      have b1 : (m.ix == x.i && m.lt == x.t) = true := by simp [hs.1, hs.2.1]
      have b2 : (m.tot != x.tot) = false := by simp [hs.2.2]
      simp -implicitDefEqProofs (disch := first | exact nbf rfl | exact nbt rfl | (simp only [ne_eq, reduceCtorEq, not_false_eq_true]; done) | omega | (simp -implicitDefEqProofs only [St.n_push, St.n_put, St.n_bump, List.length_set] <;> omega) | fail) only [b1, b2, g, aCallv, aPtrEq, XOp.kind, AOp.run, AO.eval, put, reduceCtorEq, aInt, Nat.reduceEqDiff, initEnv, V.bool, V.i64, resultsOf, AR.get, aExtract, aUn, Int.reduceEq, Int.reduceBEq, Int.reduceBNe, aBox, aLoad, aStore, aPart, aPlace, aArrAddr, aArrIdx, aIdx, aLenStr, aConv, aFold, aMinMax, aEqV, aNilCheck, fillV, aEqBool, aEqInt, aEqStr, Nat.reduceAdd, Nat.reduceLeDiff, Nat.reduceMul, Int.reduceLT, Int.reduceLE, Int.reduceToNat, Int.reduceGT, Int.reduceGE, Int.reduceNeg, Int.reduceAdd, Int.reduceSub, wrap64, chkAdd, effAdd, AOp.kind, chkAll, chkSee, Nat.reduceLT, zP.down, zQ.down]
      refine ⟨_, _, v, rfl, ?_, ?_, gb, how.kept0 (Kept.refl _ _).bump.bump, (Kept.refl _ _).bump.bump⟩
      all_goals (simp -implicitDefEqProofs (disch := first | exact nbf rfl | exact nbt rfl | (simp only [ne_eq, reduceCtorEq, not_false_eq_true]; done) | omega | (simp -implicitDefEqProofs only [St.n_push, St.n_put, St.n_bump, List.length_set] <;> omega) | fail) only [mc, aCallv, aPtrEq, XOp.kind, AOp.run, AO.eval, put, reduceCtorEq, aInt, Nat.reduceEqDiff, initEnv, V.bool, V.i64, resultsOf, AR.get, aExtract, aUn, Int.reduceEq, Int.reduceBEq, Int.reduceBNe, aBox, aLoad, aStore, aPart, aPlace, aArrAddr, aArrIdx, aIdx, aLenStr, aConv, aFold, aMinMax, aEqV, aNilCheck, fillV, aEqBool, aEqInt, aEqStr, Nat.reduceAdd, Nat.reduceLeDiff, Nat.reduceMul, Int.reduceLT, Int.reduceLE, Int.reduceToNat, Int.reduceGT, Int.reduceGE, Int.reduceNeg, Int.reduceAdd, Int.reduceSub, wrap64, chkAdd, effAdd, AOp.kind, chkAll, chkSee, Nat.reduceLT, zP.down, zQ.down]; done)
    · have hi : inew x m = ⟨m.ix, m.lt, m.tot, []⟩ := by unfold inew; rw [if_neg hs]
      rw [hi]
      dsimp only
      by_cases h1 : m.ix = x.i ∧ m.lt = x.t
      · have b1 : (m.ix == x.i && m.lt == x.t) = true := by simp [h1.1, h1.2]
        have b2 : (m.tot != x.tot) = true := by
          simp only [bne_iff_ne, ne_eq]
          exact fun h => hs ⟨h1.1, h1.2, h⟩
        simp -implicitDefEqProofs (disch := first | exact nbf rfl | exact nbt rfl | (simp only [ne_eq, reduceCtorEq, not_false_eq_true]; done) | omega | (simp -implicitDefEqProofs only [St.n_push, St.n_put, St.n_bump, List.length_set] <;> omega) | fail) only [b1, b2, g, aCallv, aPtrEq, XOp.kind, AOp.run, AO.eval, put, reduceCtorEq, aInt, Nat.reduceEqDiff, initEnv, V.bool, V.i64, resultsOf, AR.get, aExtract, aUn, Int.reduceEq, Int.reduceBEq, Int.reduceBNe, aBox, aLoad, aStore, aPart, aPlace, aArrAddr, aArrIdx, aIdx, aLenStr, aConv, aFold, aMinMax, aEqV, aNilCheck, fillV, aEqBool, aEqInt, aEqStr, Nat.reduceAdd, Nat.reduceLeDiff, Nat.reduceMul, Int.reduceLT, Int.reduceLE, Int.reduceToNat, Int.reduceGT, Int.reduceGE, Int.reduceNeg, Int.reduceAdd, Int.reduceSub, wrap64, chkAdd, effAdd, AOp.kind, chkAll, chkSee, Nat.reduceLT, zP.down, zQ.down]
        refine ⟨_, _, .sc .nilS, rfl, ?_, ?_, ?_, .nil, ?_⟩
        · simp -implicitDefEqProofs (disch := first | exact nbf rfl | exact nbt rfl | (simp only [ne_eq, reduceCtorEq, not_false_eq_true]; done) | omega | (simp -implicitDefEqProofs only [St.n_push, St.n_put, St.n_bump, List.length_set] <;> omega) | fail) only [mc, aCallv, aPtrEq, XOp.kind, AOp.run, AO.eval, put, reduceCtorEq, aInt, Nat.reduceEqDiff, initEnv, V.bool, V.i64, resultsOf, AR.get, aExtract, aUn, Int.reduceEq, Int.reduceBEq, Int.reduceBNe, aBox, aLoad, aStore, aPart, aPlace, aArrAddr, aArrIdx, aIdx, aLenStr, aConv, aFold, aMinMax, aEqV, aNilCheck, fillV, aEqBool, aEqInt, aEqStr, Nat.reduceAdd, Nat.reduceLeDiff, Nat.reduceMul, Int.reduceLT, Int.reduceLE, Int.reduceToNat, Int.reduceGT, Int.reduceGE, Int.reduceNeg, Int.reduceAdd, Int.reduceSub, wrap64, chkAdd, effAdd, AOp.kind, chkAll, chkSee, Nat.reduceLT, zP.down, zQ.down]
        · simp -implicitDefEqProofs (disch := first | exact nbf rfl | exact nbt rfl | (simp only [ne_eq, reduceCtorEq, not_false_eq_true]; done) | omega | (simp -implicitDefEqProofs only [St.n_push, St.n_put, St.n_bump, List.length_set] <;> omega) | fail) only [mc, aCallv, aPtrEq, XOp.kind, AOp.run, AO.eval, put, reduceCtorEq, aInt, Nat.reduceEqDiff, initEnv, V.bool, V.i64, resultsOf, AR.get, aExtract, aUn, Int.reduceEq, Int.reduceBEq, Int.reduceBNe, aBox, aLoad, aStore, aPart, aPlace, aArrAddr, aArrIdx, aIdx, aLenStr, aConv, aFold, aMinMax, aEqV, aNilCheck, fillV, aEqBool, aEqInt, aEqStr, Nat.reduceAdd, Nat.reduceLeDiff, Nat.reduceMul, Int.reduceLT, Int.reduceLE, Int.reduceToNat, Int.reduceGT, Int.reduceGE, Int.reduceNeg, Int.reduceAdd, Int.reduceSub, wrap64, chkAdd, effAdd, AOp.kind, chkAll, chkSee, Nat.reduceLT, zP.down, zQ.down]
        · simp -implicitDefEqProofs (disch := first | exact nbf rfl | exact nbt rfl | (simp only [ne_eq, reduceCtorEq, not_false_eq_true]; done) | omega | (simp -implicitDefEqProofs only [St.n_push, St.n_put, St.n_bump, List.length_set] <;> omega) | fail) only [mc, aCallv, aPtrEq, XOp.kind, AOp.run, AO.eval, put, reduceCtorEq, aInt, Nat.reduceEqDiff, initEnv, V.bool, V.i64, resultsOf, AR.get, aExtract, aUn, Int.reduceEq, Int.reduceBEq, Int.reduceBNe, aBox, aLoad, aStore, aPart, aPlace, aArrAddr, aArrIdx, aIdx, aLenStr, aConv, aFold, aMinMax, aEqV, aNilCheck, fillV, aEqBool, aEqInt, aEqStr, Nat.reduceAdd, Nat.reduceLeDiff, Nat.reduceMul, Int.reduceLT, Int.reduceLE, Int.reduceToNat, Int.reduceGT, Int.reduceGE, Int.reduceNeg, Int.reduceAdd, Int.reduceSub, wrap64, chkAdd, effAdd, AOp.kind, chkAll, chkSee, Nat.reduceLT, zP.down, zQ.down]
        · have k0 : Kept (· = n) σ σ.bump.bump := (Kept.refl _ _).bump.bump
          exact ((k0.put (.inl rfl) (by first | omega | (simp; omega)) _).put (.inl rfl) (by first | omega | (simp; omega)) _).put (.inl rfl) (by first | omega | (simp; omega)) _
      · have b1 : (m.ix == x.i && m.lt == x.t) = false := by
          rw [Bool.eq_false_iff]
          simpa using h1
        simp -implicitDefEqProofs (disch := first | exact nbf rfl | exact nbt rfl | (simp only [ne_eq, reduceCtorEq, not_false_eq_true]; done) | omega | (simp -implicitDefEqProofs only [St.n_push, St.n_put, St.n_bump, List.length_set] <;> omega) | fail) only [b1, g, aCallv, aPtrEq, XOp.kind, AOp.run, AO.eval, put, reduceCtorEq, aInt, Nat.reduceEqDiff, initEnv, V.bool, V.i64, resultsOf, AR.get, aExtract, aUn, Int.reduceEq, Int.reduceBEq, Int.reduceBNe, aBox, aLoad, aStore, aPart, aPlace, aArrAddr, aArrIdx, aIdx, aLenStr, aConv, aFold, aMinMax, aEqV, aNilCheck, fillV, aEqBool, aEqInt, aEqStr, Nat.reduceAdd, Nat.reduceLeDiff, Nat.reduceMul, Int.reduceLT, Int.reduceLE, Int.reduceToNat, Int.reduceGT, Int.reduceGE, Int.reduceNeg, Int.reduceAdd, Int.reduceSub, wrap64, chkAdd, effAdd, AOp.kind, chkAll, chkSee, Nat.reduceLT, zP.down, zQ.down]
        refine ⟨_, _, .sc .nilS, rfl, ?_, ?_, ?_, .nil, ?_⟩
        · simp -implicitDefEqProofs (disch := first | exact nbf rfl | exact nbt rfl | (simp only [ne_eq, reduceCtorEq, not_false_eq_true]; done) | omega | (simp -implicitDefEqProofs only [St.n_push, St.n_put, St.n_bump, List.length_set] <;> omega) | fail) only [mc, aCallv, aPtrEq, XOp.kind, AOp.run, AO.eval, put, reduceCtorEq, aInt, Nat.reduceEqDiff, initEnv, V.bool, V.i64, resultsOf, AR.get, aExtract, aUn, Int.reduceEq, Int.reduceBEq, Int.reduceBNe, aBox, aLoad, aStore, aPart, aPlace, aArrAddr, aArrIdx, aIdx, aLenStr, aConv, aFold, aMinMax, aEqV, aNilCheck, fillV, aEqBool, aEqInt, aEqStr, Nat.reduceAdd, Nat.reduceLeDiff, Nat.reduceMul, Int.reduceLT, Int.reduceLE, Int.reduceToNat, Int.reduceGT, Int.reduceGE, Int.reduceNeg, Int.reduceAdd, Int.reduceSub, wrap64, chkAdd, effAdd, AOp.kind, chkAll, chkSee, Nat.reduceLT, zP.down, zQ.down]
        · simp -implicitDefEqProofs (disch := first | exact nbf rfl | exact nbt rfl | (simp only [ne_eq, reduceCtorEq, not_false_eq_true]; done) | omega | (simp -implicitDefEqProofs only [St.n_push, St.n_put, St.n_bump, List.length_set] <;> omega) | fail) only [mc, aCallv, aPtrEq, XOp.kind, AOp.run, AO.eval, put, reduceCtorEq, aInt, Nat.reduceEqDiff, initEnv, V.bool, V.i64, resultsOf, AR.get, aExtract, aUn, Int.reduceEq, Int.reduceBEq, Int.reduceBNe, aBox, aLoad, aStore, aPart, aPlace, aArrAddr, aArrIdx, aIdx, aLenStr, aConv, aFold, aMinMax, aEqV, aNilCheck, fillV, aEqBool, aEqInt, aEqStr, Nat.reduceAdd, Nat.reduceLeDiff, Nat.reduceMul, Int.reduceLT, Int.reduceLE, Int.reduceToNat, Int.reduceGT, Int.reduceGE, Int.reduceNeg, Int.reduceAdd, Int.reduceSub, wrap64, chkAdd, effAdd, AOp.kind, chkAll, chkSee, Nat.reduceLT, zP.down, zQ.down]
        · simp -implicitDefEqProofs (disch := first | exact nbf rfl | exact nbt rfl | (simp only [ne_eq, reduceCtorEq, not_false_eq_true]; done) | omega | (simp -implicitDefEqProofs only [St.n_push, St.n_put, St.n_bump, List.length_set] <;> omega) | fail) only [mc, aCallv, aPtrEq, XOp.kind, AOp.run, AO.eval, put, reduceCtorEq, aInt, Nat.reduceEqDiff, initEnv, V.bool, V.i64, resultsOf, AR.get, aExtract, aUn, Int.reduceEq, Int.reduceBEq, Int.reduceBNe, aBox, aLoad, aStore, aPart, aPlace, aArrAddr, aArrIdx, aIdx, aLenStr, aConv, aFold, aMinMax, aEqV, aNilCheck, fillV, aEqBool, aEqInt, aEqStr, Nat.reduceAdd, Nat.reduceLeDiff, Nat.reduceMul, Int.reduceLT, Int.reduceLE, Int.reduceToNat, Int.reduceGT, Int.reduceGE, Int.reduceNeg, Int.reduceAdd, Int.reduceSub, wrap64, chkAdd, effAdd, AOp.kind, chkAll, chkSee, Nat.reduceLT, zP.down, zQ.down]
        · have k0 : Kept (· = n) σ σ.bump.bump := (Kept.refl _ _).bump.bump
          exact ((k0.put (.inl rfl) (by first | omega | (simp; omega)) _).put (.inl rfl) (by first | omega | (simp; omega)) _).put (.inl rfl) (by first | omega | (simp; omega)) _
  · rintro _ ⟨ρ, σ', v', rfl, e0, e3, g', how', kp⟩
    have hlen := how'.rv.len
    rw [List.length_map] at hlen
    have hcell := how'.rv.cell
    generalize inew x m = y at *
    have hle := hok.le
    have hhi := hok.hi
    have w1 : IntKind.i64.wrap (y.tot - (y.tx.length : Int)) = y.tot - (y.tx.length : Int) := wrap64 (by omega) (by omega)
    -- what is told
    have fin : ∀ (z : IB) σ2 v2, z.Ok → σ2.get n = some (.cells [.sc (.int .i64 z.i), .sc (.int .i64 z.t), .sc (.int .i64 z.tot), v2]) → Ow lo σ2 1 v2 (z.tx.map bc) → (∀ o y, σ.get o = some y → o ≠ n → o < lo → σ2.get o = some y) → σ.n ≤ σ2.n → (IR lo σ2 n z ∧ (∀ o y, σ.get o = some y → o ≠ n → o < lo → σ2.get o = some y) ∧ σ.n ≤ σ2.n) := fun z σ2 v2 h1 h2 h3 h4 h5 => ⟨⟨v2, h2, h3⟩, h4, h5⟩
    by_cases q : m.at' = y.tx.length ∧ (m.dat.length : Int) ≤ y.tot - y.tx.length
    · have hi : iadd y m = { y with tx := y.tx ++ m.dat } := by unfold iadd; rw [if_pos q]
      rw [hi]
      have b1 := beq_iff_eq.2 q.1
      have b2 : decide ((m.dat.length : Int) ≤ y.tot - y.tx.length) = true := by simpa using q.2
      simp -implicitDefEqProofs (disch := first | exact nbf rfl | exact nbt rfl | (simp only [ne_eq, reduceCtorEq, not_false_eq_true]; done) | omega | (simp -implicitDefEqProofs only [St.n_push, St.n_put, St.n_bump, List.length_set] <;> omega) | fail) only [e0, e3, g', mc, hlen, b1, b2, w1, aCallv, aPtrEq, XOp.kind, AOp.run, AO.eval, put, reduceCtorEq, aInt, Nat.reduceEqDiff, initEnv, V.bool, V.i64, resultsOf, AR.get, aExtract, aUn, Int.reduceEq, Int.reduceBEq, Int.reduceBNe, aBox, aLoad, aStore, aPart, aPlace, aArrAddr, aArrIdx, aIdx, aLenStr, aConv, aFold, aMinMax, aEqV, aNilCheck, fillV, aEqBool, aEqInt, aEqStr, Nat.reduceAdd, Nat.reduceLeDiff, Nat.reduceMul, Int.reduceLT, Int.reduceLE, Int.reduceToNat, Int.reduceGT, Int.reduceGE, Int.reduceNeg, Int.reduceAdd, Int.reduceSub, wrap64, chkAdd, effAdd, AOp.kind, chkAll, chkSee, Nat.reduceLT, zP.down, zQ.down]
      repeat (first | refine w_fin ?_ | refine w_seq ?_ | refine w_block ?_ | refine w_reg ?_ | refine w_op ?_ | refine w_dop ?_)
      refine (grow_str how' (by have := kp.n; omega) (by unfold roomB; omega) (by unfold roomB; omega)).mono ?_
      rintro ⟨w, σ2⟩ ⟨h1, h2⟩
      dsimp only at h1 h2
      have g2 := h2.cells g'
      have gl2 := St.get_lt g2
      have hc2 := h1.rv.cell
      have hl2 := h1.rv.len
      rw [List.length_map] at hl2
      have hb2 := fun σ => b2s_rv (σ := σ) h1.rv
      have n1 := kp.n
      have n2 := h2.n
      have hp : ∀ z, IR lo (σ2.put n (some (.cells [.sc (.int .i64 y.i), .sc (.int .i64 y.t), .sc (.int .i64 y.tot), w]))) n { y with tx := y.tx ++ m.dat } ∧ (∀ o y', σ.get o = some y' → o ≠ n → o < lo → (σ2.put n z).get o = some y') ∧ σ.n ≤ σ2.n := fun z =>
        ⟨⟨w, get_put_self g2, h1.kept (X := (· = n)) (Kept.put (X := (· = n)) (Kept.refl _ _) (.inl rfl) gl2 _) (by rintro _ rfl; rw [g2]; simp)⟩, fun o y' h3 h4 h5 => get_put_other gl2 h4 (h2.get o y' (kp.get o y' h4 h3) (.inl h5)), by omega⟩
      by_cases c : ((y.tx ++ m.dat).length : Int) < y.tot
      · have dc : decide (((y.tx ++ m.dat).length : Int) < y.tot) = true := by simpa using c
        simp -implicitDefEqProofs (disch := first | exact nbf rfl | exact nbt rfl | (simp only [ne_eq, reduceCtorEq, not_false_eq_true]; done) | omega | (simp -implicitDefEqProofs only [St.n_push, St.n_put, St.n_bump, List.length_set] <;> omega) | fail) only [e0, e3, g2, hc2.1, hc2.2, hl2, hb2, dc, itell, c, ot, aCallv, aPtrEq, XOp.kind, AOp.run, AO.eval, put, reduceCtorEq, aInt, Nat.reduceEqDiff, initEnv, V.bool, V.i64, resultsOf, AR.get, aExtract, aUn, Int.reduceEq, Int.reduceBEq, Int.reduceBNe, aBox, aLoad, aStore, aPart, aPlace, aArrAddr, aArrIdx, aIdx, aLenStr, aConv, aFold, aMinMax, aEqV, aNilCheck, fillV, aEqBool, aEqInt, aEqStr, Nat.reduceAdd, Nat.reduceLeDiff, Nat.reduceMul, Int.reduceLT, Int.reduceLE, Int.reduceToNat, Int.reduceGT, Int.reduceGE, Int.reduceNeg, Int.reduceAdd, Int.reduceSub, wrap64, chkAdd, effAdd, AOp.kind, chkAll, chkSee, Nat.reduceLT, zP.down, zQ.down]
        exact hp _
      · have dc : decide (((y.tx ++ m.dat).length : Int) < y.tot) = false := by simpa using c
        simp -implicitDefEqProofs (disch := first | exact nbf rfl | exact nbt rfl | (simp only [ne_eq, reduceCtorEq, not_false_eq_true]; done) | omega | (simp -implicitDefEqProofs only [St.n_push, St.n_put, St.n_bump, List.length_set] <;> omega) | fail) only [e0, e3, g2, hc2.1, hc2.2, hl2, hb2, dc, itell, c, ot, aCallv, aPtrEq, XOp.kind, AOp.run, AO.eval, put, reduceCtorEq, aInt, Nat.reduceEqDiff, initEnv, V.bool, V.i64, resultsOf, AR.get, aExtract, aUn, Int.reduceEq, Int.reduceBEq, Int.reduceBNe, aBox, aLoad, aStore, aPart, aPlace, aArrAddr, aArrIdx, aIdx, aLenStr, aConv, aFold, aMinMax, aEqV, aNilCheck, fillV, aEqBool, aEqInt, aEqStr, Nat.reduceAdd, Nat.reduceLeDiff, Nat.reduceMul, Int.reduceLT, Int.reduceLE, Int.reduceToNat, Int.reduceGT, Int.reduceGE, Int.reduceNeg, Int.reduceAdd, Int.reduceSub, wrap64, chkAdd, effAdd, AOp.kind, chkAll, chkSee, Nat.reduceLT, zP.down, zQ.down]
        exact hp _
    · have hi : iadd y m = y := by unfold iadd; rw [if_neg q]
      rw [hi]
      have gl2 := St.get_lt g'
      have hb2 := fun σ => b2s_rv (σ := σ) how'.rv
      have hp : IR lo σ' n y ∧ (∀ o y', σ.get o = some y' → o ≠ n → o < lo → σ'.get o = some y') ∧ σ.n ≤ σ'.n := ⟨⟨v', g', how'⟩, fun o y' h3 h4 h5 => kp.get o y' h4 h3, kp.n⟩
      have dd : decide ((y.tx.length : Int) < y.tot) = decide ((y.tx.length : Int) < y.tot) := rfl
      by_cases q1 : m.at' = y.tx.length
      · have b1 := beq_iff_eq.2 q1
        have b2 : decide ((m.dat.length : Int) ≤ y.tot - y.tx.length) = false := by
          simp only [decide_eq_false_iff_not]
          exact fun h => q ⟨q1, h⟩
        by_cases c : (y.tx.length : Int) < y.tot
        · have dc : decide ((y.tx.length : Int) < y.tot) = true := by simpa using c
          simp -implicitDefEqProofs (disch := first | exact nbf rfl | exact nbt rfl | (simp only [ne_eq, reduceCtorEq, not_false_eq_true]; done) | omega | (simp -implicitDefEqProofs only [St.n_push, St.n_put, St.n_bump, List.length_set] <;> omega) | fail) only [e0, e3, g', mc, hlen, b1, b2, w1, hcell.1, hcell.2, hb2, dc, itell, c, ot, aCallv, aPtrEq, XOp.kind, AOp.run, AO.eval, put, reduceCtorEq, aInt, Nat.reduceEqDiff, initEnv, V.bool, V.i64, resultsOf, AR.get, aExtract, aUn, Int.reduceEq, Int.reduceBEq, Int.reduceBNe, aBox, aLoad, aStore, aPart, aPlace, aArrAddr, aArrIdx, aIdx, aLenStr, aConv, aFold, aMinMax, aEqV, aNilCheck, fillV, aEqBool, aEqInt, aEqStr, Nat.reduceAdd, Nat.reduceLeDiff, Nat.reduceMul, Int.reduceLT, Int.reduceLE, Int.reduceToNat, Int.reduceGT, Int.reduceGE, Int.reduceNeg, Int.reduceAdd, Int.reduceSub, wrap64, chkAdd, effAdd, AOp.kind, chkAll, chkSee, Nat.reduceLT, zP.down, zQ.down]
          exact hp
        · have dc : decide ((y.tx.length : Int) < y.tot) = false := by simpa using c
          simp -implicitDefEqProofs (disch := first | exact nbf rfl | exact nbt rfl | (simp only [ne_eq, reduceCtorEq, not_false_eq_true]; done) | omega | (simp -implicitDefEqProofs only [St.n_push, St.n_put, St.n_bump, List.length_set] <;> omega) | fail) only [e0, e3, g', mc, hlen, b1, b2, w1, hcell.1, hcell.2, hb2, dc, itell, c, ot, aCallv, aPtrEq, XOp.kind, AOp.run, AO.eval, put, reduceCtorEq, aInt, Nat.reduceEqDiff, initEnv, V.bool, V.i64, resultsOf, AR.get, aExtract, aUn, Int.reduceEq, Int.reduceBEq, Int.reduceBNe, aBox, aLoad, aStore, aPart, aPlace, aArrAddr, aArrIdx, aIdx, aLenStr, aConv, aFold, aMinMax, aEqV, aNilCheck, fillV, aEqBool, aEqInt, aEqStr, Nat.reduceAdd, Nat.reduceLeDiff, Nat.reduceMul, Int.reduceLT, Int.reduceLE, Int.reduceToNat, Int.reduceGT, Int.reduceGE, Int.reduceNeg, Int.reduceAdd, Int.reduceSub, wrap64, chkAdd, effAdd, AOp.kind, chkAll, chkSee, Nat.reduceLT, zP.down, zQ.down]
          exact hp
      · have b1 := beq_eq_false_iff_ne.2 q1
        by_cases c : (y.tx.length : Int) < y.tot
        · have dc : decide ((y.tx.length : Int) < y.tot) = true := by simpa using c
          simp -implicitDefEqProofs (disch := first | exact nbf rfl | exact nbt rfl | (simp only [ne_eq, reduceCtorEq, not_false_eq_true]; done) | omega | (simp -implicitDefEqProofs only [St.n_push, St.n_put, St.n_bump, List.length_set] <;> omega) | fail) only [e0, e3, g', mc, hlen, b1, w1, hcell.1, hcell.2, hb2, dc, itell, c, ot, aCallv, aPtrEq, XOp.kind, AOp.run, AO.eval, put, reduceCtorEq, aInt, Nat.reduceEqDiff, initEnv, V.bool, V.i64, resultsOf, AR.get, aExtract, aUn, Int.reduceEq, Int.reduceBEq, Int.reduceBNe, aBox, aLoad, aStore, aPart, aPlace, aArrAddr, aArrIdx, aIdx, aLenStr, aConv, aFold, aMinMax, aEqV, aNilCheck, fillV, aEqBool, aEqInt, aEqStr, Nat.reduceAdd, Nat.reduceLeDiff, Nat.reduceMul, Int.reduceLT, Int.reduceLE, Int.reduceToNat, Int.reduceGT, Int.reduceGE, Int.reduceNeg, Int.reduceAdd, Int.reduceSub, wrap64, chkAdd, effAdd, AOp.kind, chkAll, chkSee, Nat.reduceLT, zP.down, zQ.down]
          exact hp
        · have dc : decide ((y.tx.length : Int) < y.tot) = false := by simpa using c
          simp -implicitDefEqProofs (disch := first | exact nbf rfl | exact nbt rfl | (simp only [ne_eq, reduceCtorEq, not_false_eq_true]; done) | omega | (simp -implicitDefEqProofs only [St.n_push, St.n_put, St.n_bump, List.length_set] <;> omega) | fail) only [e0, e3, g', mc, hlen, b1, w1, hcell.1, hcell.2, hb2, dc, itell, c, ot, aCallv, aPtrEq, XOp.kind, AOp.run, AO.eval, put, reduceCtorEq, aInt, Nat.reduceEqDiff, initEnv, V.bool, V.i64, resultsOf, AR.get, aExtract, aUn, Int.reduceEq, Int.reduceBEq, Int.reduceBNe, aBox, aLoad, aStore, aPart, aPlace, aArrAddr, aArrIdx, aIdx, aLenStr, aConv, aFold, aMinMax, aEqV, aNilCheck, fillV, aEqBool, aEqInt, aEqStr, Nat.reduceAdd, Nat.reduceLeDiff, Nat.reduceMul, Int.reduceLT, Int.reduceLE, Int.reduceToNat, Int.reduceGT, Int.reduceGE, Int.reduceNeg, Int.reduceAdd, Int.reduceSub, wrap64, chkAdd, effAdd, AOp.kind, chkAll, chkSee, Nat.reduceLT, zP.down, zQ.down]
          exact hp

/-- The document's. -/
def WR (σ : St) (n : Nat) (x : IB) : Prop := σ.get n = some (.cells [.sc (.int .i64 x.i), .sc (.int .i64 x.t), .sc (.int .i64 x.tot), .str x.tx])
theorem rput_ok (k : Nat) (ys : YlF) (σ : St) (n : Nat) (x : IB) (m : Ms) (h : WR σ n x) (hx : x.Ok) (hen : Cell1 m.en) (hd : m.dat.length ≤ 1000000) :
    W (callY Tab.tb (k + 1) ys 12 [.ptr n 0, .agg (mc m)] σ) fun r => r.1 = ot (iout x m) ∧ WR r.2 n (iput x m) ∧ Kept (· = n) σ r.2 := by
  rw [s_call (af := Tab.b12) rfl (Nat.le_of_ble_eq_true rfl)]
  generalize callY Tab.tb k = cy
  unfold WR at h
  have g := h
  have e1 := hen.1
  have e2 := hen.2
  have gl := St.get_lt g
  have k0 : Kept (· = n) σ σ.bump := (Kept.refl _ _).bump
  have g0 : σ.bump.get n = some (.cells [.sc (.int .i64 x.i), .sc (.int .i64 x.t), .sc (.int .i64 x.tot), .str x.tx]) := by rw [St.get_bump]; exact g
  by_cases hb : ibad m
  · have hb' := hb
    unfold ibad at hb'
    have out : iout x m = (0, [], false) := by unfold iout; rw [if_pos hb]
    have pin : iput x m = x := by unfold iput; rw [if_pos hb]
    rw [out, pin]
    by_cases c1 : m.tot < 0
    · have d1 : decide (m.tot < 0) = true := by simpa using c1
      simp -implicitDefEqProofs (disch := first | exact nbf rfl | exact nbt rfl | (simp only [ne_eq, reduceCtorEq, not_false_eq_true]; done) | omega | (simp -implicitDefEqProofs only [St.n_push, St.n_put, St.n_bump, List.length_set] <;> omega) | fail) only [Tab.b12, mc, e1, e2, d1, ot, aCallv, aPtrEq, XOp.kind, AOp.run, AO.eval, put, reduceCtorEq, aInt, Nat.reduceEqDiff, initEnv, V.bool, V.i64, resultsOf, AR.get, aExtract, aUn, Int.reduceEq, Int.reduceBEq, Int.reduceBNe, aBox, aLoad, aStore, aPart, aPlace, aArrAddr, aArrIdx, aIdx, aLenStr, aConv, aFold, aMinMax, aEqV, aNilCheck, fillV, aEqBool, aEqInt, aEqStr, Nat.reduceAdd, Nat.reduceLeDiff, Nat.reduceMul, Int.reduceLT, Int.reduceLE, Int.reduceToNat, Int.reduceGT, Int.reduceGE, Int.reduceNeg, Int.reduceAdd, Int.reduceSub, wrap64, chkAdd, effAdd, AOp.kind, chkAll, chkSee, Nat.reduceLT, zP.down, zQ.down]
      exact ⟨g0, k0⟩
    have d1 : decide (m.tot < 0) = false := by simpa using c1
    by_cases c2 : m.tot > 262144
    · have d2 : decide (m.tot > 262144) = true := by simpa using c2
      simp -implicitDefEqProofs (disch := first | exact nbf rfl | exact nbt rfl | (simp only [ne_eq, reduceCtorEq, not_false_eq_true]; done) | omega | (simp -implicitDefEqProofs only [St.n_push, St.n_put, St.n_bump, List.length_set] <;> omega) | fail) only [Tab.b12, mc, e1, e2, d1, d2, ot, aCallv, aPtrEq, XOp.kind, AOp.run, AO.eval, put, reduceCtorEq, aInt, Nat.reduceEqDiff, initEnv, V.bool, V.i64, resultsOf, AR.get, aExtract, aUn, Int.reduceEq, Int.reduceBEq, Int.reduceBNe, aBox, aLoad, aStore, aPart, aPlace, aArrAddr, aArrIdx, aIdx, aLenStr, aConv, aFold, aMinMax, aEqV, aNilCheck, fillV, aEqBool, aEqInt, aEqStr, Nat.reduceAdd, Nat.reduceLeDiff, Nat.reduceMul, Int.reduceLT, Int.reduceLE, Int.reduceToNat, Int.reduceGT, Int.reduceGE, Int.reduceNeg, Int.reduceAdd, Int.reduceSub, wrap64, chkAdd, effAdd, AOp.kind, chkAll, chkSee, Nat.reduceLT, zP.down, zQ.down]
      exact ⟨g0, k0⟩
    have d2 : decide (m.tot > 262144) = false := by simpa using c2
    by_cases c3 : m.at' < 0
    · have d3 : decide (m.at' < 0) = true := by simpa using c3
      simp -implicitDefEqProofs (disch := first | exact nbf rfl | exact nbt rfl | (simp only [ne_eq, reduceCtorEq, not_false_eq_true]; done) | omega | (simp -implicitDefEqProofs only [St.n_push, St.n_put, St.n_bump, List.length_set] <;> omega) | fail) only [Tab.b12, mc, e1, e2, d1, d2, d3, ot, aCallv, aPtrEq, XOp.kind, AOp.run, AO.eval, put, reduceCtorEq, aInt, Nat.reduceEqDiff, initEnv, V.bool, V.i64, resultsOf, AR.get, aExtract, aUn, Int.reduceEq, Int.reduceBEq, Int.reduceBNe, aBox, aLoad, aStore, aPart, aPlace, aArrAddr, aArrIdx, aIdx, aLenStr, aConv, aFold, aMinMax, aEqV, aNilCheck, fillV, aEqBool, aEqInt, aEqStr, Nat.reduceAdd, Nat.reduceLeDiff, Nat.reduceMul, Int.reduceLT, Int.reduceLE, Int.reduceToNat, Int.reduceGT, Int.reduceGE, Int.reduceNeg, Int.reduceAdd, Int.reduceSub, wrap64, chkAdd, effAdd, AOp.kind, chkAll, chkSee, Nat.reduceLT, zP.down, zQ.down]
      exact ⟨g0, k0⟩
    have d3 : decide (m.at' < 0) = false := by simpa using c3
    have d4 : decide (m.ix < 1) = true := by simp; omega
    simp -implicitDefEqProofs (disch := first | exact nbf rfl | exact nbt rfl | (simp only [ne_eq, reduceCtorEq, not_false_eq_true]; done) | omega | (simp -implicitDefEqProofs only [St.n_push, St.n_put, St.n_bump, List.length_set] <;> omega) | fail) only [Tab.b12, mc, e1, e2, d1, d2, d3, d4, ot, aCallv, aPtrEq, XOp.kind, AOp.run, AO.eval, put, reduceCtorEq, aInt, Nat.reduceEqDiff, initEnv, V.bool, V.i64, resultsOf, AR.get, aExtract, aUn, Int.reduceEq, Int.reduceBEq, Int.reduceBNe, aBox, aLoad, aStore, aPart, aPlace, aArrAddr, aArrIdx, aIdx, aLenStr, aConv, aFold, aMinMax, aEqV, aNilCheck, fillV, aEqBool, aEqInt, aEqStr, Nat.reduceAdd, Nat.reduceLeDiff, Nat.reduceMul, Int.reduceLT, Int.reduceLE, Int.reduceToNat, Int.reduceGT, Int.reduceGE, Int.reduceNeg, Int.reduceAdd, Int.reduceSub, wrap64, chkAdd, effAdd, AOp.kind, chkAll, chkSee, Nat.reduceLT, zP.down, zQ.down]
    exact ⟨g0, k0⟩
  have out : iout x m = itell (iput x m) := by unfold iout; rw [if_neg hb]
  have pin : iput x m = iadd (inew x m) m := by unfold iput; rw [if_neg hb]
  have hok := inew_ok hx hb
  rw [out, pin]
  unfold ibad at hb
  have d1 : decide (m.tot < 0) = false := by simp; omega
  have d2 : decide (m.tot > 262144) = false := by simp; omega
  have d3 : decide (m.at' < 0) = false := by simp; omega
  have d4 : decide (m.ix < 1) = false := by simp; omega
  simp -implicitDefEqProofs (disch := first | exact nbf rfl | exact nbt rfl | (simp only [ne_eq, reduceCtorEq, not_false_eq_true]; done) | omega | (simp -implicitDefEqProofs only [St.n_push, St.n_put, St.n_bump, List.length_set] <;> omega) | fail) only [Tab.b12, mc, e1, e2, d1, d2, d3, d4, g, aCallv, aPtrEq, XOp.kind, AOp.run, AO.eval, put, reduceCtorEq, aInt, Nat.reduceEqDiff, initEnv, V.bool, V.i64, resultsOf, AR.get, aExtract, aUn, Int.reduceEq, Int.reduceBEq, Int.reduceBNe, aBox, aLoad, aStore, aPart, aPlace, aArrAddr, aArrIdx, aIdx, aLenStr, aConv, aFold, aMinMax, aEqV, aNilCheck, fillV, aEqBool, aEqInt, aEqStr, Nat.reduceAdd, Nat.reduceLeDiff, Nat.reduceMul, Int.reduceLT, Int.reduceLE, Int.reduceToNat, Int.reduceGT, Int.reduceGE, Int.reduceNeg, Int.reduceAdd, Int.reduceSub, wrap64, chkAdd, effAdd, AOp.kind, chkAll, chkSee, Nat.reduceLT, zP.down, zQ.down]
  refine w_fin ?_
  refine w_seq ?_
  refine W.mono (Q := fun r => ∃ (ρ : Env) (σ' : St), r = ((.normal : Ex), ρ, σ') ∧ ρ 0 = .ptr n 0 ∧ ρ 3 = .agg (mc m) ∧ WR σ' n (inew x m) ∧ Kept (· = n) σ σ') ?_ ?_
  · have old : (m.ix = x.i ∧ m.lt = x.t ∧ m.tot = x.tot) → inew x m = x := fun hs => by unfold inew; rw [if_pos hs]
    have new : ¬ (m.ix = x.i ∧ m.lt = x.t ∧ m.tot = x.tot) → inew x m = ⟨m.ix, m.lt, m.tot, []⟩ := fun hs => by unfold inew; rw [if_neg hs]
    have k3 : ∀ a b c, Kept (· = n) σ (((σ.bump.put n a).put n b).put n c) := fun a b c => ((k0.put (.inl rfl) (by first | omega | (simp; omega)) _).put (.inl rfl) (by first | omega | (simp; omega)) _).put (.inl rfl) (by first | omega | (simp; omega)) _
    unfold WR
    by_cases h1 : m.ix = x.i
    · have b1 : (m.ix != x.i) = false := by simp [h1]
      by_cases h2 : m.lt = x.t
      · have b2 : (m.lt != x.t) = false := by simp [h2]
        by_cases h3 : m.tot = x.tot
        · have b3 : (m.tot != x.tot) = false := by simp [h3]
          rw [old ⟨h1, h2, h3⟩]
          simp -implicitDefEqProofs (disch := first | exact nbf rfl | exact nbt rfl | (simp only [ne_eq, reduceCtorEq, not_false_eq_true]; done) | omega | (simp -implicitDefEqProofs only [St.n_push, St.n_put, St.n_bump, List.length_set] <;> omega) | fail) only [b1, b2, b3, g, aCallv, aPtrEq, XOp.kind, AOp.run, AO.eval, put, reduceCtorEq, aInt, Nat.reduceEqDiff, initEnv, V.bool, V.i64, resultsOf, AR.get, aExtract, aUn, Int.reduceEq, Int.reduceBEq, Int.reduceBNe, aBox, aLoad, aStore, aPart, aPlace, aArrAddr, aArrIdx, aIdx, aLenStr, aConv, aFold, aMinMax, aEqV, aNilCheck, fillV, aEqBool, aEqInt, aEqStr, Nat.reduceAdd, Nat.reduceLeDiff, Nat.reduceMul, Int.reduceLT, Int.reduceLE, Int.reduceToNat, Int.reduceGT, Int.reduceGE, Int.reduceNeg, Int.reduceAdd, Int.reduceSub, wrap64, chkAdd, effAdd, AOp.kind, chkAll, chkSee, Nat.reduceLT, zP.down, zQ.down]
          refine ⟨_, _, rfl, ?_, ?_, g0, k0⟩
          all_goals (simp -implicitDefEqProofs (disch := first | exact nbf rfl | exact nbt rfl | (simp only [ne_eq, reduceCtorEq, not_false_eq_true]; done) | omega | (simp -implicitDefEqProofs only [St.n_push, St.n_put, St.n_bump, List.length_set] <;> omega) | fail) only [mc, aCallv, aPtrEq, XOp.kind, AOp.run, AO.eval, put, reduceCtorEq, aInt, Nat.reduceEqDiff, initEnv, V.bool, V.i64, resultsOf, AR.get, aExtract, aUn, Int.reduceEq, Int.reduceBEq, Int.reduceBNe, aBox, aLoad, aStore, aPart, aPlace, aArrAddr, aArrIdx, aIdx, aLenStr, aConv, aFold, aMinMax, aEqV, aNilCheck, fillV, aEqBool, aEqInt, aEqStr, Nat.reduceAdd, Nat.reduceLeDiff, Nat.reduceMul, Int.reduceLT, Int.reduceLE, Int.reduceToNat, Int.reduceGT, Int.reduceGE, Int.reduceNeg, Int.reduceAdd, Int.reduceSub, wrap64, chkAdd, effAdd, AOp.kind, chkAll, chkSee, Nat.reduceLT, zP.down, zQ.down]; done)
        · have b3 : (m.tot != x.tot) = true := by simp [h3]
          rw [new fun h => h3 h.2.2]
          simp -implicitDefEqProofs (disch := first | exact nbf rfl | exact nbt rfl | (simp only [ne_eq, reduceCtorEq, not_false_eq_true]; done) | omega | (simp -implicitDefEqProofs only [St.n_push, St.n_put, St.n_bump, List.length_set] <;> omega) | fail) only [b1, b2, b3, g, aCallv, aPtrEq, XOp.kind, AOp.run, AO.eval, put, reduceCtorEq, aInt, Nat.reduceEqDiff, initEnv, V.bool, V.i64, resultsOf, AR.get, aExtract, aUn, Int.reduceEq, Int.reduceBEq, Int.reduceBNe, aBox, aLoad, aStore, aPart, aPlace, aArrAddr, aArrIdx, aIdx, aLenStr, aConv, aFold, aMinMax, aEqV, aNilCheck, fillV, aEqBool, aEqInt, aEqStr, Nat.reduceAdd, Nat.reduceLeDiff, Nat.reduceMul, Int.reduceLT, Int.reduceLE, Int.reduceToNat, Int.reduceGT, Int.reduceGE, Int.reduceNeg, Int.reduceAdd, Int.reduceSub, wrap64, chkAdd, effAdd, AOp.kind, chkAll, chkSee, Nat.reduceLT, zP.down, zQ.down]
          refine ⟨_, _, rfl, ?_, ?_, ?_, k3 _ _ _⟩
          all_goals (simp -implicitDefEqProofs (disch := first | exact nbf rfl | exact nbt rfl | (simp only [ne_eq, reduceCtorEq, not_false_eq_true]; done) | omega | (simp -implicitDefEqProofs only [St.n_push, St.n_put, St.n_bump, List.length_set] <;> omega) | fail) only [mc, aCallv, aPtrEq, XOp.kind, AOp.run, AO.eval, put, reduceCtorEq, aInt, Nat.reduceEqDiff, initEnv, V.bool, V.i64, resultsOf, AR.get, aExtract, aUn, Int.reduceEq, Int.reduceBEq, Int.reduceBNe, aBox, aLoad, aStore, aPart, aPlace, aArrAddr, aArrIdx, aIdx, aLenStr, aConv, aFold, aMinMax, aEqV, aNilCheck, fillV, aEqBool, aEqInt, aEqStr, Nat.reduceAdd, Nat.reduceLeDiff, Nat.reduceMul, Int.reduceLT, Int.reduceLE, Int.reduceToNat, Int.reduceGT, Int.reduceGE, Int.reduceNeg, Int.reduceAdd, Int.reduceSub, wrap64, chkAdd, effAdd, AOp.kind, chkAll, chkSee, Nat.reduceLT, zP.down, zQ.down]; done)
      · have b2 : (m.lt != x.t) = true := by simp [h2]
        rw [new fun h => h2 h.2.1]
        simp -implicitDefEqProofs (disch := first | exact nbf rfl | exact nbt rfl | (simp only [ne_eq, reduceCtorEq, not_false_eq_true]; done) | omega | (simp -implicitDefEqProofs only [St.n_push, St.n_put, St.n_bump, List.length_set] <;> omega) | fail) only [b1, b2, g, aCallv, aPtrEq, XOp.kind, AOp.run, AO.eval, put, reduceCtorEq, aInt, Nat.reduceEqDiff, initEnv, V.bool, V.i64, resultsOf, AR.get, aExtract, aUn, Int.reduceEq, Int.reduceBEq, Int.reduceBNe, aBox, aLoad, aStore, aPart, aPlace, aArrAddr, aArrIdx, aIdx, aLenStr, aConv, aFold, aMinMax, aEqV, aNilCheck, fillV, aEqBool, aEqInt, aEqStr, Nat.reduceAdd, Nat.reduceLeDiff, Nat.reduceMul, Int.reduceLT, Int.reduceLE, Int.reduceToNat, Int.reduceGT, Int.reduceGE, Int.reduceNeg, Int.reduceAdd, Int.reduceSub, wrap64, chkAdd, effAdd, AOp.kind, chkAll, chkSee, Nat.reduceLT, zP.down, zQ.down]
        refine ⟨_, _, rfl, ?_, ?_, ?_, k3 _ _ _⟩
        all_goals (simp -implicitDefEqProofs (disch := first | exact nbf rfl | exact nbt rfl | (simp only [ne_eq, reduceCtorEq, not_false_eq_true]; done) | omega | (simp -implicitDefEqProofs only [St.n_push, St.n_put, St.n_bump, List.length_set] <;> omega) | fail) only [mc, aCallv, aPtrEq, XOp.kind, AOp.run, AO.eval, put, reduceCtorEq, aInt, Nat.reduceEqDiff, initEnv, V.bool, V.i64, resultsOf, AR.get, aExtract, aUn, Int.reduceEq, Int.reduceBEq, Int.reduceBNe, aBox, aLoad, aStore, aPart, aPlace, aArrAddr, aArrIdx, aIdx, aLenStr, aConv, aFold, aMinMax, aEqV, aNilCheck, fillV, aEqBool, aEqInt, aEqStr, Nat.reduceAdd, Nat.reduceLeDiff, Nat.reduceMul, Int.reduceLT, Int.reduceLE, Int.reduceToNat, Int.reduceGT, Int.reduceGE, Int.reduceNeg, Int.reduceAdd, Int.reduceSub, wrap64, chkAdd, effAdd, AOp.kind, chkAll, chkSee, Nat.reduceLT, zP.down, zQ.down]; done)
    · have b1 : (m.ix != x.i) = true := by simp [h1]
      rw [new fun h => h1 h.1]
      simp -implicitDefEqProofs (disch := first | exact nbf rfl | exact nbt rfl | (simp only [ne_eq, reduceCtorEq, not_false_eq_true]; done) | omega | (simp -implicitDefEqProofs only [St.n_push, St.n_put, St.n_bump, List.length_set] <;> omega) | fail) only [b1, g, aCallv, aPtrEq, XOp.kind, AOp.run, AO.eval, put, reduceCtorEq, aInt, Nat.reduceEqDiff, initEnv, V.bool, V.i64, resultsOf, AR.get, aExtract, aUn, Int.reduceEq, Int.reduceBEq, Int.reduceBNe, aBox, aLoad, aStore, aPart, aPlace, aArrAddr, aArrIdx, aIdx, aLenStr, aConv, aFold, aMinMax, aEqV, aNilCheck, fillV, aEqBool, aEqInt, aEqStr, Nat.reduceAdd, Nat.reduceLeDiff, Nat.reduceMul, Int.reduceLT, Int.reduceLE, Int.reduceToNat, Int.reduceGT, Int.reduceGE, Int.reduceNeg, Int.reduceAdd, Int.reduceSub, wrap64, chkAdd, effAdd, AOp.kind, chkAll, chkSee, Nat.reduceLT, zP.down, zQ.down]
      refine ⟨_, _, rfl, ?_, ?_, ?_, k3 _ _ _⟩
      all_goals (simp -implicitDefEqProofs (disch := first | exact nbf rfl | exact nbt rfl | (simp only [ne_eq, reduceCtorEq, not_false_eq_true]; done) | omega | (simp -implicitDefEqProofs only [St.n_push, St.n_put, St.n_bump, List.length_set] <;> omega) | fail) only [mc, aCallv, aPtrEq, XOp.kind, AOp.run, AO.eval, put, reduceCtorEq, aInt, Nat.reduceEqDiff, initEnv, V.bool, V.i64, resultsOf, AR.get, aExtract, aUn, Int.reduceEq, Int.reduceBEq, Int.reduceBNe, aBox, aLoad, aStore, aPart, aPlace, aArrAddr, aArrIdx, aIdx, aLenStr, aConv, aFold, aMinMax, aEqV, aNilCheck, fillV, aEqBool, aEqInt, aEqStr, Nat.reduceAdd, Nat.reduceLeDiff, Nat.reduceMul, Int.reduceLT, Int.reduceLE, Int.reduceToNat, Int.reduceGT, Int.reduceGE, Int.reduceNeg, Int.reduceAdd, Int.reduceSub, wrap64, chkAdd, effAdd, AOp.kind, chkAll, chkSee, Nat.reduceLT, zP.down, zQ.down]; done)
  · rintro _ ⟨ρ, σ', rfl, e0, e3, g', kp⟩
    generalize inew x m = y at *
    have hle := hok.le
    have hhi := hok.hi
    unfold WR at g'
    have gl2 := St.get_lt g'
    have w1 : IntKind.i64.wrap (y.tot - (y.tx.length : Int)) = y.tot - (y.tx.length : Int) := wrap64 (by omega) (by omega)
    by_cases q : m.at' = y.tx.length ∧ (m.dat.length : Int) ≤ y.tot - y.tx.length
    · have hi : iadd y m = { y with tx := y.tx ++ m.dat } := by unfold iadd; rw [if_pos q]
      rw [hi]
      have b1 := beq_iff_eq.2 q.1
      have b2 : decide ((m.dat.length : Int) ≤ y.tot - y.tx.length) = true := by simpa using q.2
      have ha : aBin .add (.str y.tx) (.str m.dat) = some (.str (y.tx ++ m.dat)) := by
        have : ¬ (y.tx.length + m.dat.length > 9223372036854775807) := by omega
        simp only [aBin, aStr, this, if_false]
      have hp : ∀ z, z = [.sc (.int .i64 y.i), .sc (.int .i64 y.t), .sc (.int .i64 y.tot), .str (y.tx ++ m.dat)] → WR (σ'.put n (some (.cells z))) n { y with tx := y.tx ++ m.dat } ∧ Kept (· = n) σ (σ'.put n (some (.cells z))) := fun z hz =>
        ⟨by subst hz; exact get_put_self g', kp.put (.inl rfl) gl2 _⟩
      by_cases c : ((y.tx ++ m.dat).length : Int) = y.tot
      · have dc : (((y.tx ++ m.dat).length : Int) == y.tot) = true := by simpa using c
        have nc : ¬ (((y.tx ++ m.dat).length : Int) < y.tot) := by omega
        simp -implicitDefEqProofs (disch := first | exact nbf rfl | exact nbt rfl | (simp only [ne_eq, reduceCtorEq, not_false_eq_true]; done) | omega | (simp -implicitDefEqProofs only [St.n_push, St.n_put, St.n_bump, List.length_set] <;> omega) | fail) only [e0, e3, g', mc, b1, b2, w1, ha, dc, itell, nc, ot, aCallv, aPtrEq, XOp.kind, AOp.run, AO.eval, put, reduceCtorEq, aInt, Nat.reduceEqDiff, initEnv, V.bool, V.i64, resultsOf, AR.get, aExtract, aUn, Int.reduceEq, Int.reduceBEq, Int.reduceBNe, aBox, aLoad, aStore, aPart, aPlace, aArrAddr, aArrIdx, aIdx, aLenStr, aConv, aFold, aMinMax, aEqV, aNilCheck, fillV, aEqBool, aEqInt, aEqStr, Nat.reduceAdd, Nat.reduceLeDiff, Nat.reduceMul, Int.reduceLT, Int.reduceLE, Int.reduceToNat, Int.reduceGT, Int.reduceGE, Int.reduceNeg, Int.reduceAdd, Int.reduceSub, wrap64, chkAdd, effAdd, AOp.kind, chkAll, chkSee, Nat.reduceLT, zP.down, zQ.down]
        exact hp _ rfl
      · have dc : (((y.tx ++ m.dat).length : Int) == y.tot) = false := beq_eq_false_iff_ne.2 c
        have nc : (((y.tx ++ m.dat).length : Int) < y.tot) := by rw [List.length_append] at c ⊢; omega
        simp -implicitDefEqProofs (disch := first | exact nbf rfl | exact nbt rfl | (simp only [ne_eq, reduceCtorEq, not_false_eq_true]; done) | omega | (simp -implicitDefEqProofs only [St.n_push, St.n_put, St.n_bump, List.length_set] <;> omega) | fail) only [e0, e3, g', mc, b1, b2, w1, ha, dc, itell, nc, ot, aCallv, aPtrEq, XOp.kind, AOp.run, AO.eval, put, reduceCtorEq, aInt, Nat.reduceEqDiff, initEnv, V.bool, V.i64, resultsOf, AR.get, aExtract, aUn, Int.reduceEq, Int.reduceBEq, Int.reduceBNe, aBox, aLoad, aStore, aPart, aPlace, aArrAddr, aArrIdx, aIdx, aLenStr, aConv, aFold, aMinMax, aEqV, aNilCheck, fillV, aEqBool, aEqInt, aEqStr, Nat.reduceAdd, Nat.reduceLeDiff, Nat.reduceMul, Int.reduceLT, Int.reduceLE, Int.reduceToNat, Int.reduceGT, Int.reduceGE, Int.reduceNeg, Int.reduceAdd, Int.reduceSub, wrap64, chkAdd, effAdd, AOp.kind, chkAll, chkSee, Nat.reduceLT, zP.down, zQ.down]
        exact hp _ rfl
    · have hi : iadd y m = y := by unfold iadd; rw [if_neg q]
      rw [hi]
      have hq : WR σ' n y ∧ Kept (· = n) σ σ' := ⟨g', kp⟩
      by_cases q1 : m.at' = y.tx.length
      · have b1 := beq_iff_eq.2 q1
        have b2 : decide ((m.dat.length : Int) ≤ y.tot - y.tx.length) = false := by
          simp only [decide_eq_false_iff_not]
          exact fun h => q ⟨q1, h⟩
        by_cases c : (y.tx.length : Int) = y.tot
        · have dc : ((y.tx.length : Int) == y.tot) = true := by simpa using c
          have nc : ¬ ((y.tx.length : Int) < y.tot) := by omega
          simp -implicitDefEqProofs (disch := first | exact nbf rfl | exact nbt rfl | (simp only [ne_eq, reduceCtorEq, not_false_eq_true]; done) | omega | (simp -implicitDefEqProofs only [St.n_push, St.n_put, St.n_bump, List.length_set] <;> omega) | fail) only [e0, e3, g', mc, b1, b2, w1, dc, itell, nc, ot, aCallv, aPtrEq, XOp.kind, AOp.run, AO.eval, put, reduceCtorEq, aInt, Nat.reduceEqDiff, initEnv, V.bool, V.i64, resultsOf, AR.get, aExtract, aUn, Int.reduceEq, Int.reduceBEq, Int.reduceBNe, aBox, aLoad, aStore, aPart, aPlace, aArrAddr, aArrIdx, aIdx, aLenStr, aConv, aFold, aMinMax, aEqV, aNilCheck, fillV, aEqBool, aEqInt, aEqStr, Nat.reduceAdd, Nat.reduceLeDiff, Nat.reduceMul, Int.reduceLT, Int.reduceLE, Int.reduceToNat, Int.reduceGT, Int.reduceGE, Int.reduceNeg, Int.reduceAdd, Int.reduceSub, wrap64, chkAdd, effAdd, AOp.kind, chkAll, chkSee, Nat.reduceLT, zP.down, zQ.down]
          exact hq
        · have dc : ((y.tx.length : Int) == y.tot) = false := beq_eq_false_iff_ne.2 c
          have nc : ((y.tx.length : Int) < y.tot) := by omega
          simp -implicitDefEqProofs (disch := first | exact nbf rfl | exact nbt rfl | (simp only [ne_eq, reduceCtorEq, not_false_eq_true]; done) | omega | (simp -implicitDefEqProofs only [St.n_push, St.n_put, St.n_bump, List.length_set] <;> omega) | fail) only [e0, e3, g', mc, b1, b2, w1, dc, itell, nc, ot, aCallv, aPtrEq, XOp.kind, AOp.run, AO.eval, put, reduceCtorEq, aInt, Nat.reduceEqDiff, initEnv, V.bool, V.i64, resultsOf, AR.get, aExtract, aUn, Int.reduceEq, Int.reduceBEq, Int.reduceBNe, aBox, aLoad, aStore, aPart, aPlace, aArrAddr, aArrIdx, aIdx, aLenStr, aConv, aFold, aMinMax, aEqV, aNilCheck, fillV, aEqBool, aEqInt, aEqStr, Nat.reduceAdd, Nat.reduceLeDiff, Nat.reduceMul, Int.reduceLT, Int.reduceLE, Int.reduceToNat, Int.reduceGT, Int.reduceGE, Int.reduceNeg, Int.reduceAdd, Int.reduceSub, wrap64, chkAdd, effAdd, AOp.kind, chkAll, chkSee, Nat.reduceLT, zP.down, zQ.down]
          exact hq
      · have b1 := beq_eq_false_iff_ne.2 q1
        by_cases c : (y.tx.length : Int) = y.tot
        · have dc : ((y.tx.length : Int) == y.tot) = true := by simpa using c
          have nc : ¬ ((y.tx.length : Int) < y.tot) := by omega
          simp -implicitDefEqProofs (disch := first | exact nbf rfl | exact nbt rfl | (simp only [ne_eq, reduceCtorEq, not_false_eq_true]; done) | omega | (simp -implicitDefEqProofs only [St.n_push, St.n_put, St.n_bump, List.length_set] <;> omega) | fail) only [e0, e3, g', mc, b1, w1, dc, itell, nc, ot, aCallv, aPtrEq, XOp.kind, AOp.run, AO.eval, put, reduceCtorEq, aInt, Nat.reduceEqDiff, initEnv, V.bool, V.i64, resultsOf, AR.get, aExtract, aUn, Int.reduceEq, Int.reduceBEq, Int.reduceBNe, aBox, aLoad, aStore, aPart, aPlace, aArrAddr, aArrIdx, aIdx, aLenStr, aConv, aFold, aMinMax, aEqV, aNilCheck, fillV, aEqBool, aEqInt, aEqStr, Nat.reduceAdd, Nat.reduceLeDiff, Nat.reduceMul, Int.reduceLT, Int.reduceLE, Int.reduceToNat, Int.reduceGT, Int.reduceGE, Int.reduceNeg, Int.reduceAdd, Int.reduceSub, wrap64, chkAdd, effAdd, AOp.kind, chkAll, chkSee, Nat.reduceLT, zP.down, zQ.down]
          exact hq
        · have dc : ((y.tx.length : Int) == y.tot) = false := beq_eq_false_iff_ne.2 c
          have nc : ((y.tx.length : Int) < y.tot) := by omega
          simp -implicitDefEqProofs (disch := first | exact nbf rfl | exact nbt rfl | (simp only [ne_eq, reduceCtorEq, not_false_eq_true]; done) | omega | (simp -implicitDefEqProofs only [St.n_push, St.n_put, St.n_bump, List.length_set] <;> omega) | fail) only [e0, e3, g', mc, b1, w1, dc, itell, nc, ot, aCallv, aPtrEq, XOp.kind, AOp.run, AO.eval, put, reduceCtorEq, aInt, Nat.reduceEqDiff, initEnv, V.bool, V.i64, resultsOf, AR.get, aExtract, aUn, Int.reduceEq, Int.reduceBEq, Int.reduceBNe, aBox, aLoad, aStore, aPart, aPlace, aArrAddr, aArrIdx, aIdx, aLenStr, aConv, aFold, aMinMax, aEqV, aNilCheck, fillV, aEqBool, aEqInt, aEqStr, Nat.reduceAdd, Nat.reduceLeDiff, Nat.reduceMul, Int.reduceLT, Int.reduceLE, Int.reduceToNat, Int.reduceGT, Int.reduceGE, Int.reduceNeg, Int.reduceAdd, Int.reduceSub, wrap64, chkAdd, effAdd, AOp.kind, chkAll, chkSee, Nat.reduceLT, zP.down, zQ.down]
          exact hq
end Go.Proofs.Ytjcobnjnjliehaa.sn
namespace Go.Proofs.Ytjcobnjnjliehaa.sn
open Go.Ab
set_option maxRecDepth 100000
set_option maxHeartbeats 8000000
set_option linter.unusedSimpArgs false
set_option linter.unusedVariables false

theorem works_run : (callY Tab.tb 9223372036854775999 noYl 8 [] St.empty).map (·.1) = some (.sc (.bool true)) := by kernel_rfl
theorem works_ok : ∃ σ1, callY Tab.tb (9223372036854775997 + 2) noYl 8 [] St.empty = some (.sc (.bool true), σ1) := by
  have h := works_run
  rw [Option.map_eq_some_iff] at h
  obtain ⟨⟨v, σ1⟩, h1, h2⟩ := h
  exact ⟨σ1, by rw [show (9223372036854775997 + 2 : Nat) = 9223372036854775999 from rfl, h1]; simp only at h2; rw [h2]⟩
end Go.Proofs.Ytjcobnjnjliehaa.sn
namespace Go.Proofs.Ytjcobnjnjliehaa.sn
open Go.Ab
set_option maxRecDepth 100000
set_option maxHeartbeats 8000000
set_option linter.unusedSimpArgs false
set_option linter.unusedVariables false

structure Msgs (x : V) (l : List Ms) : Prop where
  rv : RV 22 x (l.map mc)
  en : ∀ m ∈ l, Cell1 m.en
  len : l.length ≤ 9223372036854775807
abbrev msT : Ty := .agg [.int .u8, .int .i64, .int .i64, .int .i64, .int .i64, .int .i64, .int .i64, .int .i64, .bool, .sl (.agg [.int .i64, .str]), .int .i64, .int .i64, .str, .int .i64, .agg [.int .i64, .int .i64], .int .i64, .int .i64, .int .i64, .int .u8, .int .i64, .int .i64]
theorem msgs_of {x : V} (h : ArgA (.sl msT) x) : ∃ l, Msgs x l := by
  obtain ⟨es, h1, h2, h3, h4⟩ := rv_slA h
  have : ∃ l : List Ms, es = l.map mc ∧ ∀ m ∈ l, Cell1 m.en := by
    clear h h1 h3 h4
    induction es with
    | nil => exact ⟨[], rfl, by simp⟩
    | cons e es ih =>
      obtain ⟨l, rfl, h6⟩ := ih fun a ha => h2 a (List.mem_cons_of_mem _ ha)
      have h := h2 e List.mem_cons_self
      simp only [Arg, ArgL] at h
      obtain ⟨a0, b0, rfl, ⟨n0, rfl, w0⟩, ⟨a1, b1, rfl, ⟨n1, rfl, w1⟩, ⟨a2, b2, rfl, ⟨n2, rfl, w2⟩, ⟨a3, b3, rfl, ⟨n3, rfl, w3⟩, ⟨a4, b4, rfl, ⟨n4, rfl, w4⟩, ⟨a5, b5, rfl, ⟨n5, rfl, w5⟩, ⟨a6, b6, rfl, ⟨n6, rfl, w6⟩, ⟨a7, b7, rfl, ⟨n7, rfl, w7⟩, ⟨a8, b8, rfl, ⟨n8, rfl⟩, ⟨a9, b9, rfl, hs, ⟨a10, b10, rfl, ⟨n10, rfl, w10⟩, ⟨a11, b11, rfl, ⟨n11, rfl, w11⟩, ⟨a12, b12, rfl, ⟨n12, rfl, w12⟩, ⟨a13, b13, rfl, ⟨n13, rfl, w13⟩, ⟨a14, b14, rfl, ⟨c1, d1, rfl, ⟨p1, rfl, wp1⟩, ⟨c2, d2, rfl, ⟨p2, rfl, wp2⟩, rfl⟩⟩, ⟨a15, b15, rfl, ⟨n15, rfl, w15⟩, ⟨a16, b16, rfl, ⟨n16, rfl, w16⟩, ⟨a17, b17, rfl, ⟨n17, rfl, w17⟩, ⟨a18, b18, rfl, ⟨n18, rfl, w18⟩, ⟨a19, b19, rfl, ⟨n19, rfl, w19⟩, ⟨a20, b20, rfl, ⟨n20, rfl, w20⟩, rfl⟩⟩⟩⟩⟩⟩⟩⟩⟩⟩⟩⟩⟩⟩⟩⟩⟩⟩⟩⟩⟩ := h
      have h5 : ∃ v, a9 = [v] ∧ Cell1 v := by
        rcases hs with rfl | ⟨a, rfl⟩ | ⟨es, q1, rfl, q2⟩ <;> exact ⟨_, rfl, rfl, rfl⟩
      obtain ⟨v, rfl, hv⟩ := h5
      refine ⟨⟨n0, n1, n2, n3, n4, n5, n6, n7, n8, v, n10, n11, n12, n13, p1, p2, n15, n16, n17, n18, n19, n20⟩ :: l, rfl, fun p hp => ?_⟩
      rcases List.mem_cons.1 hp with rfl | hp
      · exact hv
      · exact h6 p hp
  obtain ⟨l, rfl, h6⟩ := this
  exact ⟨l, h1, h6, by simpa [maxLen] using h3⟩

/-- A piece. -/
def pc (t : List UInt8) (i : Nat) : List UInt8 := (t.drop i).take (min (i + 2048) t.length - i)
theorem pcm {i n : Nat} : (if (n : Int) < (i : Int) + 2048 then (n : Int) else (i : Int) + 2048) = ((min (i + 2048) n : Nat) : Int) := by split <;> omega
theorem piece_ok (k : Nat) (ys : YlF) (σ : St) (t : List UInt8) (i : Nat) (h1 : i ≤ t.length) (ht : t.length ≤ 140737488355328) :
    callY Tab.tb (k + 1) ys 9 [.str t, .sc (.int .i64 i)] σ = some (.tup [.str (pc t i), .sc (.int .i64 0)], σ) := by
  rw [s_call (af := Tab.b9) rfl (Nat.le_of_ble_eq_true rfl)]
  generalize callY Tab.tb k = cy
  have d1 : decide ((i : Int) < 0) = false := by simp
  have d2 : decide ((i : Int) > (t.length : Int)) = false := by simp; omega
  have w1 : IntKind.i64.wrap ((i : Int) + 2048) = (i : Int) + 2048 := wrap64 (by omega) (by omega)
  have hs := str_sl (s := t) (l := i) (h := min (i + 2048) t.length) (by omega) (by omega)
  simp -implicitDefEqProofs (disch := first | exact nbf rfl | exact nbt rfl | (simp only [ne_eq, reduceCtorEq, not_false_eq_true]; done) | omega | (simp -implicitDefEqProofs only [St.n_push, St.n_put, St.n_bump, List.length_set] <;> omega) | fail) only [Tab.b9, d1, d2, w1, pcm, hs, pc, aCallv, aPtrEq, XOp.kind, AOp.run, AO.eval, put, reduceCtorEq, aInt, Nat.reduceEqDiff, initEnv, V.bool, V.i64, resultsOf, AR.get, aExtract, aUn, Int.reduceEq, Int.reduceBEq, Int.reduceBNe, aBox, aLoad, aStore, aPart, aPlace, aArrAddr, aArrIdx, aIdx, aLenStr, aConv, aFold, aMinMax, aEqV, aNilCheck, fillV, aEqBool, aEqInt, aEqStr, Nat.reduceAdd, Nat.reduceLeDiff, Nat.reduceMul, Int.reduceLT, Int.reduceLE, Int.reduceToNat, Int.reduceGT, Int.reduceGE, Int.reduceNeg, Int.reduceAdd, Int.reduceSub, wrap64, chkAdd, effAdd, AOp.kind, chkAll, chkSee, Nat.reduceLT, zP.down, zQ.down]

theorem pieceb_ok (k : Nat) (ys : YlF) (σ : St) (t : List UInt8) (a : Int) (h : a < 0 ∨ a > t.length) :
    callY Tab.tb (k + 1) ys 9 [.str t, .sc (.int .i64 a)] σ = some (.tup [.str [], .sc (.int .i64 5)], σ) := by
  rw [s_call (af := Tab.b9) rfl (Nat.le_of_ble_eq_true rfl)]
  generalize callY Tab.tb k = cy
  by_cases c : a < 0
  · have d1 : decide (a < 0) = true := by simpa using c
    simp -implicitDefEqProofs (disch := first | exact nbf rfl | exact nbt rfl | (simp only [ne_eq, reduceCtorEq, not_false_eq_true]; done) | omega | (simp -implicitDefEqProofs only [St.n_push, St.n_put, St.n_bump, List.length_set] <;> omega) | fail) only [Tab.b9, d1, aCallv, aPtrEq, XOp.kind, AOp.run, AO.eval, put, reduceCtorEq, aInt, Nat.reduceEqDiff, initEnv, V.bool, V.i64, resultsOf, AR.get, aExtract, aUn, Int.reduceEq, Int.reduceBEq, Int.reduceBNe, aBox, aLoad, aStore, aPart, aPlace, aArrAddr, aArrIdx, aIdx, aLenStr, aConv, aFold, aMinMax, aEqV, aNilCheck, fillV, aEqBool, aEqInt, aEqStr, Nat.reduceAdd, Nat.reduceLeDiff, Nat.reduceMul, Int.reduceLT, Int.reduceLE, Int.reduceToNat, Int.reduceGT, Int.reduceGE, Int.reduceNeg, Int.reduceAdd, Int.reduceSub, wrap64, chkAdd, effAdd, AOp.kind, chkAll, chkSee, Nat.reduceLT, zP.down, zQ.down]
  · have d1 : decide (a < 0) = false := by simpa using c
    have d2 : decide (a > (t.length : Int)) = true := by simp; omega
    simp -implicitDefEqProofs (disch := first | exact nbf rfl | exact nbt rfl | (simp only [ne_eq, reduceCtorEq, not_false_eq_true]; done) | omega | (simp -implicitDefEqProofs only [St.n_push, St.n_put, St.n_bump, List.length_set] <;> omega) | fail) only [Tab.b9, d1, d2, aCallv, aPtrEq, XOp.kind, AOp.run, AO.eval, put, reduceCtorEq, aInt, Nat.reduceEqDiff, initEnv, V.bool, V.i64, resultsOf, AR.get, aExtract, aUn, Int.reduceEq, Int.reduceBEq, Int.reduceBNe, aBox, aLoad, aStore, aPart, aPlace, aArrAddr, aArrIdx, aIdx, aLenStr, aConv, aFold, aMinMax, aEqV, aNilCheck, fillV, aEqBool, aEqInt, aEqStr, Nat.reduceAdd, Nat.reduceLeDiff, Nat.reduceMul, Int.reduceLT, Int.reduceLE, Int.reduceToNat, Int.reduceGT, Int.reduceGE, Int.reduceNeg, Int.reduceAdd, Int.reduceSub, wrap64, chkAdd, effAdd, AOp.kind, chkAll, chkSee, Nat.reduceLT, zP.down, zQ.down]
end Go.Proofs.Ytjcobnjnjliehaa.sn
namespace Go.Proofs.Ytjcobnjnjliehaa.sn
open Go.Ab
set_option maxRecDepth 100000
set_option maxHeartbeats 8000000
set_option linter.unusedSimpArgs false
set_option linter.unusedVariables false

theorem newi_ok (k : Nat) (ys : YlF) (σ : St) : W (callY Tab.tb (k + 1) ys 10 [] σ) fun r => r.1 = .ptr σ.n 0 ∧ (∀ lo, IR lo r.2 σ.n I0) ∧ Kept noX σ r.2 ∧ r.2.n = σ.n + 1 := by
  rw [s_call (af := Tab.b10) rfl (Nat.le_of_ble_eq_true rfl)]
  generalize callY Tab.tb k = cy
  simp -implicitDefEqProofs (disch := first | exact nbf rfl | exact nbt rfl | (simp only [ne_eq, reduceCtorEq, not_false_eq_true]; done) | omega | (simp -implicitDefEqProofs only [St.n_push, St.n_put, St.n_bump, List.length_set] <;> omega) | fail) only [Tab.b10, aCallv, aPtrEq, XOp.kind, AOp.run, AO.eval, put, reduceCtorEq, aInt, Nat.reduceEqDiff, initEnv, V.bool, V.i64, resultsOf, AR.get, aExtract, aUn, Int.reduceEq, Int.reduceBEq, Int.reduceBNe, aBox, aLoad, aStore, aPart, aPlace, aArrAddr, aArrIdx, aIdx, aLenStr, aConv, aFold, aMinMax, aEqV, aNilCheck, fillV, aEqBool, aEqInt, aEqStr, Nat.reduceAdd, Nat.reduceLeDiff, Nat.reduceMul, Int.reduceLT, Int.reduceLE, Int.reduceToNat, Int.reduceGT, Int.reduceGE, Int.reduceNeg, Int.reduceAdd, Int.reduceSub, wrap64, chkAdd, effAdd, AOp.kind, chkAll, chkSee, Nat.reduceLT, zP.down, zQ.down]
  exact ⟨fun lo => ⟨_, get_push_self, .nil⟩, (Kept.refl _ _).push _⟩

theorem pieces_run (k : Nat) (σ0 : St) (t : List UInt8) (a : Int) (x : V) (l : List Ms) (h : Msgs x l) (ht : t.length ≤ 140737488355328) (hk : 9223372036854775808 ≤ k) (σ1 : St) (hw : callY Tab.tb (k + 2) noYl 8 [] σ0 = some (.sc (.bool true), σ1)) :
    W (callY Tab.tb (k + 3) noYl 3 [.str t, .sc (.int .i64 a), x] σ0) fun r => r.1 = .sc (.bool true) := by
  rw [s_call (af := Tab.b3) rfl (Nat.le_of_ble_eq_true rfl)]
  have hpiece := fun σ i h => piece_ok (k + 1) noYl σ t i h ht
  have hpieceb := fun σ h => pieceb_ok (k + 1) noYl σ t a h
  have hnew := fun σ => newi_ok (k + 1) noYl σ
  have hput := fun σ n lo x m h hx hen hlo hn hd => put_ok (k + 1) noYl σ n lo x m h hx hen hlo hn hd
  have hrput := fun σ n x m h hx hen hd => rput_ok (k + 1) noYl σ n x m h hx hen hd
  generalize callY Tab.tb (k + 2) = cy at hw hpiece hpieceb hnew hput hrput ⊢
  have hlen := h.rv.len
  rw [List.length_map] at hlen
  have hsize := h.rv.size
  have hl2 := h.len
  have mm : ∀ n : Nat, (if (262144 : Int) < (n : Int) then (262144 : Int) else (n : Int)) = ((min n 262144 : Nat) : Int) := fun n => by split <;> omega
  simp -implicitDefEqProofs (disch := first | exact nbf rfl | exact nbt rfl | (simp only [ne_eq, reduceCtorEq, not_false_eq_true]; done) | omega | (simp -implicitDefEqProofs only [St.n_push, St.n_put, St.n_bump, List.length_set] <;> omega) | fail) only [Tab.b3, hw, hlen, aCallv, aPtrEq, XOp.kind, AOp.run, AO.eval, put, reduceCtorEq, aInt, Nat.reduceEqDiff, initEnv, V.bool, V.i64, resultsOf, AR.get, aExtract, aUn, Int.reduceEq, Int.reduceBEq, Int.reduceBNe, aBox, aLoad, aStore, aPart, aPlace, aArrAddr, aArrIdx, aIdx, aLenStr, aConv, aFold, aMinMax, aEqV, aNilCheck, fillV, aEqBool, aEqInt, aEqStr, Nat.reduceAdd, Nat.reduceLeDiff, Nat.reduceMul, Int.reduceLT, Int.reduceLE, Int.reduceToNat, Int.reduceGT, Int.reduceGE, Int.reduceNeg, Int.reduceAdd, Int.reduceSub, wrap64, chkAdd, effAdd, AOp.kind, chkAll, chkSee, Nat.reduceLT, zP.down, zQ.down]
  repeat (first | refine w_fin ?_ | refine w_seq ?_ | refine w_block ?_ | refine w_reg ?_ | refine w_op ?_ | refine w_dop ?_)
  refine W.mono (Q := fun r => (∃ (ρ : Env) (σ' : St), r = ((.ret : Ex), ρ, σ') ∧ ρ 6 = .sc (.bool true)) ∨ (∃ (ρ : Env) (σ' : St) (n : Nat), r = ((.exit 0 : Ex), ρ, σ') ∧ ρ 0 = .str t ∧ ρ 1 = .sc (.int .i64 a) ∧ ρ 2 = x ∧ ρ 7 = .sc (.int .i64 n) ∧ t.length ≤ n ∧ (∀ p ∈ l, p.dat.length ≤ 262144))) ?_ ?_
  · refine w_loop (fun m ρ σ' => ∃ (i n : Nat), m = l.length - i ∧ i ≤ l.length ∧ t.length ≤ n ∧ n ≤ 140737488355328 ∧ ρ 0 = .str t ∧ ρ 1 = .sc (.int .i64 a) ∧ ρ 2 = x ∧ ρ 26 = x ∧ ρ 27 = .sc (.int .i64 l.length) ∧ ρ 7 = .sc (.int .i64 n) ∧ ρ 28 = .sc (.int .i64 i) ∧ (∀ p ∈ l.take i, p.dat.length ≤ 262144)) l.length (by omega) ?_ ?_
    · refine ⟨0, t.length, rfl, Nat.zero_le _, Nat.le_refl _, ht, ?_, ?_, ?_, ?_, ?_, ?_, ?_, by simp⟩
      all_goals first | rfl | (simp -implicitDefEqProofs (disch := first | exact nbf rfl | exact nbt rfl | (simp only [ne_eq, reduceCtorEq, not_false_eq_true]; done) | omega | (simp -implicitDefEqProofs only [St.n_push, St.n_put, St.n_bump, List.length_set] <;> omega) | fail) only [aCallv, aPtrEq, XOp.kind, AOp.run, AO.eval, put, reduceCtorEq, aInt, Nat.reduceEqDiff, initEnv, V.bool, V.i64, resultsOf, AR.get, aExtract, aUn, Int.reduceEq, Int.reduceBEq, Int.reduceBNe, aBox, aLoad, aStore, aPart, aPlace, aArrAddr, aArrIdx, aIdx, aLenStr, aConv, aFold, aMinMax, aEqV, aNilCheck, fillV, aEqBool, aEqInt, aEqStr, Nat.reduceAdd, Nat.reduceLeDiff, Nat.reduceMul, Int.reduceLT, Int.reduceLE, Int.reduceToNat, Int.reduceGT, Int.reduceGE, Int.reduceNeg, Int.reduceAdd, Int.reduceSub, wrap64, chkAdd, effAdd, AOp.kind, chkAll, chkSee, Nat.reduceLT, zP.down, zQ.down]; done) | (simp -implicitDefEqProofs (disch := first | exact nbf rfl | exact nbt rfl | (simp only [ne_eq, reduceCtorEq, not_false_eq_true]; done) | omega | (simp -implicitDefEqProofs only [St.n_push, St.n_put, St.n_bump, List.length_set] <;> omega) | fail) only [aCallv, aPtrEq, XOp.kind, AOp.run, AO.eval, put, reduceCtorEq, aInt, Nat.reduceEqDiff, initEnv, V.bool, V.i64, resultsOf, AR.get, aExtract, aUn, Int.reduceEq, Int.reduceBEq, Int.reduceBNe, aBox, aLoad, aStore, aPart, aPlace, aArrAddr, aArrIdx, aIdx, aLenStr, aConv, aFold, aMinMax, aEqV, aNilCheck, fillV, aEqBool, aEqInt, aEqStr, Nat.reduceAdd, Nat.reduceLeDiff, Nat.reduceMul, Int.reduceLT, Int.reduceLE, Int.reduceToNat, Int.reduceGT, Int.reduceGE, Int.reduceNeg, Int.reduceAdd, Int.reduceSub, wrap64, chkAdd, effAdd, AOp.kind, chkAll, chkSee, Nat.reduceLT, zP.down, zQ.down]; rfl)
    · rintro m ρ σ' ⟨i, n, hm, hi, hn, hn2, e0, e1, e2, e26, e27, e7, e28, hp⟩
      by_cases hl : i < l.length
      · have c1 : decide ((i : Int) < (l.length : Int)) = true := by simpa using hl
        obtain ⟨a1, a2, a3⟩ := h.rv.at (i := i) (by simpa using hl)
        simp only [List.getElem_map] at a3
        have hcell := h.en _ (List.getElem_mem hl)
        have hc1 := hcell.1
        have hc2 := hcell.2
        generalize hm' : l[i] = p at *
        simp only [mc] at a3
        have w2 : IntKind.i64.wrap ((n : Int) + ((min p.dat.length 262144 : Nat) : Int)) = ((n + min p.dat.length 262144 : Nat) : Int) := by rw [wrap64 (by omega) (by omega)]; omega
        have w3 : IntKind.i64.wrap ((i : Int) + 1) = (i : Int) + 1 := wrap64 (by omega) (by omega)
        by_cases hg : ((n + min p.dat.length 262144 : Nat) : Int) > 131072
        · have c2 : decide (((n + min p.dat.length 262144 : Nat) : Int) > 131072) = true := by simpa using hg
          simp -implicitDefEqProofs (disch := first | exact nbf rfl | exact nbt rfl | (simp only [ne_eq, reduceCtorEq, not_false_eq_true]; done) | omega | (simp -implicitDefEqProofs only [St.n_push, St.n_put, St.n_bump, List.length_set] <;> omega) | fail) only [c1, e0, e1, e2, e26, e27, e7, e28, a1, a2, a3, hsize, hc1, hc2, mm, w2, c2, aCallv, aPtrEq, XOp.kind, AOp.run, AO.eval, put, reduceCtorEq, aInt, Nat.reduceEqDiff, initEnv, V.bool, V.i64, resultsOf, AR.get, aExtract, aUn, Int.reduceEq, Int.reduceBEq, Int.reduceBNe, aBox, aLoad, aStore, aPart, aPlace, aArrAddr, aArrIdx, aIdx, aLenStr, aConv, aFold, aMinMax, aEqV, aNilCheck, fillV, aEqBool, aEqInt, aEqStr, Nat.reduceAdd, Nat.reduceLeDiff, Nat.reduceMul, Int.reduceLT, Int.reduceLE, Int.reduceToNat, Int.reduceGT, Int.reduceGE, Int.reduceNeg, Int.reduceAdd, Int.reduceSub, wrap64, chkAdd, effAdd, AOp.kind, chkAll, chkSee, Nat.reduceLT, zP.down, zQ.down]
          left
          refine ⟨_, _, rfl, ?_⟩
          simp -implicitDefEqProofs (disch := first | exact nbf rfl | exact nbt rfl | (simp only [ne_eq, reduceCtorEq, not_false_eq_true]; done) | omega | (simp -implicitDefEqProofs only [St.n_push, St.n_put, St.n_bump, List.length_set] <;> omega) | fail) only [aCallv, aPtrEq, XOp.kind, AOp.run, AO.eval, put, reduceCtorEq, aInt, Nat.reduceEqDiff, initEnv, V.bool, V.i64, resultsOf, AR.get, aExtract, aUn, Int.reduceEq, Int.reduceBEq, Int.reduceBNe, aBox, aLoad, aStore, aPart, aPlace, aArrAddr, aArrIdx, aIdx, aLenStr, aConv, aFold, aMinMax, aEqV, aNilCheck, fillV, aEqBool, aEqInt, aEqStr, Nat.reduceAdd, Nat.reduceLeDiff, Nat.reduceMul, Int.reduceLT, Int.reduceLE, Int.reduceToNat, Int.reduceGT, Int.reduceGE, Int.reduceNeg, Int.reduceAdd, Int.reduceSub, wrap64, chkAdd, effAdd, AOp.kind, chkAll, chkSee, Nat.reduceLT, zP.down, zQ.down]
        · have c2 : decide (((n + min p.dat.length 262144 : Nat) : Int) > 131072) = false := by simpa using hg
          simp -implicitDefEqProofs (disch := first | exact nbf rfl | exact nbt rfl | (simp only [ne_eq, reduceCtorEq, not_false_eq_true]; done) | omega | (simp -implicitDefEqProofs only [St.n_push, St.n_put, St.n_bump, List.length_set] <;> omega) | fail) only [c1, e0, e1, e2, e26, e27, e7, e28, a1, a2, a3, hsize, hc1, hc2, mm, w2, w3, c2, aCallv, aPtrEq, XOp.kind, AOp.run, AO.eval, put, reduceCtorEq, aInt, Nat.reduceEqDiff, initEnv, V.bool, V.i64, resultsOf, AR.get, aExtract, aUn, Int.reduceEq, Int.reduceBEq, Int.reduceBNe, aBox, aLoad, aStore, aPart, aPlace, aArrAddr, aArrIdx, aIdx, aLenStr, aConv, aFold, aMinMax, aEqV, aNilCheck, fillV, aEqBool, aEqInt, aEqStr, Nat.reduceAdd, Nat.reduceLeDiff, Nat.reduceMul, Int.reduceLT, Int.reduceLE, Int.reduceToNat, Int.reduceGT, Int.reduceGE, Int.reduceNeg, Int.reduceAdd, Int.reduceSub, wrap64, chkAdd, effAdd, AOp.kind, chkAll, chkSee, Nat.reduceLT, zP.down, zQ.down]
          refine ⟨l.length - (i + 1), by omega, i + 1, n + min p.dat.length 262144, rfl, hl, by omega, by omega, by simp, by simp, fun q hq => ?_⟩
          · rw [List.take_add_one, List.getElem?_eq_getElem hl, hm'] at hq
            rcases List.mem_append.1 hq with h1 | h1
            · exact hp q h1
            · simp at h1; subst h1; omega
      · have c1 : decide ((i : Int) < (l.length : Int)) = false := by simpa using hl
        have : i = l.length := by omega
        subst this
        rw [List.take_length] at hp
        simp -implicitDefEqProofs (disch := first | exact nbf rfl | exact nbt rfl | (simp only [ne_eq, reduceCtorEq, not_false_eq_true]; done) | omega | (simp -implicitDefEqProofs only [St.n_push, St.n_put, St.n_bump, List.length_set] <;> omega) | fail) only [c1, e0, e1, e2, e26, e27, e7, e28, aCallv, aPtrEq, XOp.kind, AOp.run, AO.eval, put, reduceCtorEq, aInt, Nat.reduceEqDiff, initEnv, V.bool, V.i64, resultsOf, AR.get, aExtract, aUn, Int.reduceEq, Int.reduceBEq, Int.reduceBNe, aBox, aLoad, aStore, aPart, aPlace, aArrAddr, aArrIdx, aIdx, aLenStr, aConv, aFold, aMinMax, aEqV, aNilCheck, fillV, aEqBool, aEqInt, aEqStr, Nat.reduceAdd, Nat.reduceLeDiff, Nat.reduceMul, Int.reduceLT, Int.reduceLE, Int.reduceToNat, Int.reduceGT, Int.reduceGE, Int.reduceNeg, Int.reduceAdd, Int.reduceSub, wrap64, chkAdd, effAdd, AOp.kind, chkAll, chkSee, Nat.reduceLT, zP.down, zQ.down]
        right
        refine ⟨_, _, n, rfl, ?_, ?_, ?_, ?_, hn, hp⟩
        all_goals (simp -implicitDefEqProofs (disch := first | exact nbf rfl | exact nbt rfl | (simp only [ne_eq, reduceCtorEq, not_false_eq_true]; done) | omega | (simp -implicitDefEqProofs only [St.n_push, St.n_put, St.n_bump, List.length_set] <;> omega) | fail) only [e0, e1, e2, e7, aCallv, aPtrEq, XOp.kind, AOp.run, AO.eval, put, reduceCtorEq, aInt, Nat.reduceEqDiff, initEnv, V.bool, V.i64, resultsOf, AR.get, aExtract, aUn, Int.reduceEq, Int.reduceBEq, Int.reduceBNe, aBox, aLoad, aStore, aPart, aPlace, aArrAddr, aArrIdx, aIdx, aLenStr, aConv, aFold, aMinMax, aEqV, aNilCheck, fillV, aEqBool, aEqInt, aEqStr, Nat.reduceAdd, Nat.reduceLeDiff, Nat.reduceMul, Int.reduceLT, Int.reduceLE, Int.reduceToNat, Int.reduceGT, Int.reduceGE, Int.reduceNeg, Int.reduceAdd, Int.reduceSub, wrap64, chkAdd, effAdd, AOp.kind, chkAll, chkSee, Nat.reduceLT, zP.down, zQ.down]; done)
  · rintro _ (⟨ρ, σ', rfl, e6⟩ | ⟨ρ, σ', n, rfl, e0, e1, e2, e7, hn, hp⟩)
    · simp -implicitDefEqProofs (disch := first | exact nbf rfl | exact nbt rfl | (simp only [ne_eq, reduceCtorEq, not_false_eq_true]; done) | omega | (simp -implicitDefEqProofs only [St.n_push, St.n_put, St.n_bump, List.length_set] <;> omega) | fail) only [e6, aCallv, aPtrEq, XOp.kind, AOp.run, AO.eval, put, reduceCtorEq, aInt, Nat.reduceEqDiff, initEnv, V.bool, V.i64, resultsOf, AR.get, aExtract, aUn, Int.reduceEq, Int.reduceBEq, Int.reduceBNe, aBox, aLoad, aStore, aPart, aPlace, aArrAddr, aArrIdx, aIdx, aLenStr, aConv, aFold, aMinMax, aEqV, aNilCheck, fillV, aEqBool, aEqInt, aEqStr, Nat.reduceAdd, Nat.reduceLeDiff, Nat.reduceMul, Int.reduceLT, Int.reduceLE, Int.reduceToNat, Int.reduceGT, Int.reduceGE, Int.reduceNeg, Int.reduceAdd, Int.reduceSub, wrap64, chkAdd, effAdd, AOp.kind, chkAll, chkSee, Nat.reduceLT, zP.down, zQ.down]
    · by_cases q1 : (n : Int) > 131072
      · have c1 : decide ((n : Int) > 131072) = true := by simpa using q1
        simp -implicitDefEqProofs (disch := first | exact nbf rfl | exact nbt rfl | (simp only [ne_eq, reduceCtorEq, not_false_eq_true]; done) | omega | (simp -implicitDefEqProofs only [St.n_push, St.n_put, St.n_bump, List.length_set] <;> omega) | fail) only [e0, e1, e2, e7, c1, aCallv, aPtrEq, XOp.kind, AOp.run, AO.eval, put, reduceCtorEq, aInt, Nat.reduceEqDiff, initEnv, V.bool, V.i64, resultsOf, AR.get, aExtract, aUn, Int.reduceEq, Int.reduceBEq, Int.reduceBNe, aBox, aLoad, aStore, aPart, aPlace, aArrAddr, aArrIdx, aIdx, aLenStr, aConv, aFold, aMinMax, aEqV, aNilCheck, fillV, aEqBool, aEqInt, aEqStr, Nat.reduceAdd, Nat.reduceLeDiff, Nat.reduceMul, Int.reduceLT, Int.reduceLE, Int.reduceToNat, Int.reduceGT, Int.reduceGE, Int.reduceNeg, Int.reduceAdd, Int.reduceSub, wrap64, chkAdd, effAdd, AOp.kind, chkAll, chkSee, Nat.reduceLT, zP.down, zQ.down]
      have c1 : decide ((n : Int) > 131072) = false := by simpa using q1
      by_cases q2 : (l.length : Int) > 300
      · have c2 : decide ((l.length : Int) > 300) = true := by simpa using q2
        simp -implicitDefEqProofs (disch := first | exact nbf rfl | exact nbt rfl | (simp only [ne_eq, reduceCtorEq, not_false_eq_true]; done) | omega | (simp -implicitDefEqProofs only [St.n_push, St.n_put, St.n_bump, List.length_set] <;> omega) | fail) only [e0, e1, e2, e7, c1, c2, hlen, aCallv, aPtrEq, XOp.kind, AOp.run, AO.eval, put, reduceCtorEq, aInt, Nat.reduceEqDiff, initEnv, V.bool, V.i64, resultsOf, AR.get, aExtract, aUn, Int.reduceEq, Int.reduceBEq, Int.reduceBNe, aBox, aLoad, aStore, aPart, aPlace, aArrAddr, aArrIdx, aIdx, aLenStr, aConv, aFold, aMinMax, aEqV, aNilCheck, fillV, aEqBool, aEqInt, aEqStr, Nat.reduceAdd, Nat.reduceLeDiff, Nat.reduceMul, Int.reduceLT, Int.reduceLE, Int.reduceToNat, Int.reduceGT, Int.reduceGE, Int.reduceNeg, Int.reduceAdd, Int.reduceSub, wrap64, chkAdd, effAdd, AOp.kind, chkAll, chkSee, Nat.reduceLT, zP.down, zQ.down]
      have c2 : decide ((l.length : Int) > 300) = false := by simpa using q2
      -- the piece
      simp -implicitDefEqProofs (disch := first | exact nbf rfl | exact nbt rfl | (simp only [ne_eq, reduceCtorEq, not_false_eq_true]; done) | omega | (simp -implicitDefEqProofs only [St.n_push, St.n_put, St.n_bump, List.length_set] <;> omega) | fail) only [e0, e1, e2, e7, c1, c2, hlen, aCallv, aPtrEq, XOp.kind, AOp.run, AO.eval, put, reduceCtorEq, aInt, Nat.reduceEqDiff, initEnv, V.bool, V.i64, resultsOf, AR.get, aExtract, aUn, Int.reduceEq, Int.reduceBEq, Int.reduceBNe, aBox, aLoad, aStore, aPart, aPlace, aArrAddr, aArrIdx, aIdx, aLenStr, aConv, aFold, aMinMax, aEqV, aNilCheck, fillV, aEqBool, aEqInt, aEqStr, Nat.reduceAdd, Nat.reduceLeDiff, Nat.reduceMul, Int.reduceLT, Int.reduceLE, Int.reduceToNat, Int.reduceGT, Int.reduceGE, Int.reduceNeg, Int.reduceAdd, Int.reduceSub, wrap64, chkAdd, effAdd, AOp.kind, chkAll, chkSee, Nat.reduceLT, zP.down, zQ.down]
      refine w_seq ?_
      refine W.mono (Q := fun r => ∃ (ρ' : Env) (σ2 : St), r = ((.normal : Ex), ρ', σ2) ∧ ρ' 0 = .str t ∧ ρ' 1 = .sc (.int .i64 a) ∧ ρ' 2 = x ∧ (((a < 0 ∨ a > t.length) ∧ ρ' 10 = .str [] ∧ ρ' 11 = .sc (.int .i64 5)) ∨ ∃ i : Nat, a = i ∧ i ≤ t.length ∧ ρ' 10 = .str (pc t i) ∧ ρ' 11 = .sc (.int .i64 0))) ?_ ?_
      · by_cases q3 : a < 0 ∨ a > t.length
        · have hp3 := fun σ => hpieceb σ q3
          simp -implicitDefEqProofs (disch := first | exact nbf rfl | exact nbt rfl | (simp only [ne_eq, reduceCtorEq, not_false_eq_true]; done) | omega | (simp -implicitDefEqProofs only [St.n_push, St.n_put, St.n_bump, List.length_set] <;> omega) | fail) only [hp3, aCallv, aPtrEq, XOp.kind, AOp.run, AO.eval, put, reduceCtorEq, aInt, Nat.reduceEqDiff, initEnv, V.bool, V.i64, resultsOf, AR.get, aExtract, aUn, Int.reduceEq, Int.reduceBEq, Int.reduceBNe, aBox, aLoad, aStore, aPart, aPlace, aArrAddr, aArrIdx, aIdx, aLenStr, aConv, aFold, aMinMax, aEqV, aNilCheck, fillV, aEqBool, aEqInt, aEqStr, Nat.reduceAdd, Nat.reduceLeDiff, Nat.reduceMul, Int.reduceLT, Int.reduceLE, Int.reduceToNat, Int.reduceGT, Int.reduceGE, Int.reduceNeg, Int.reduceAdd, Int.reduceSub, wrap64, chkAdd, effAdd, AOp.kind, chkAll, chkSee, Nat.reduceLT, zP.down, zQ.down]
          refine ⟨_, _, rfl, ?_, ?_, ?_, .inl ⟨q3, ?_, ?_⟩⟩
          all_goals (simp -implicitDefEqProofs (disch := first | exact nbf rfl | exact nbt rfl | (simp only [ne_eq, reduceCtorEq, not_false_eq_true]; done) | omega | (simp -implicitDefEqProofs only [St.n_push, St.n_put, St.n_bump, List.length_set] <;> omega) | fail) only [e0, e1, e2, aCallv, aPtrEq, XOp.kind, AOp.run, AO.eval, put, reduceCtorEq, aInt, Nat.reduceEqDiff, initEnv, V.bool, V.i64, resultsOf, AR.get, aExtract, aUn, Int.reduceEq, Int.reduceBEq, Int.reduceBNe, aBox, aLoad, aStore, aPart, aPlace, aArrAddr, aArrIdx, aIdx, aLenStr, aConv, aFold, aMinMax, aEqV, aNilCheck, fillV, aEqBool, aEqInt, aEqStr, Nat.reduceAdd, Nat.reduceLeDiff, Nat.reduceMul, Int.reduceLT, Int.reduceLE, Int.reduceToNat, Int.reduceGT, Int.reduceGE, Int.reduceNeg, Int.reduceAdd, Int.reduceSub, wrap64, chkAdd, effAdd, AOp.kind, chkAll, chkSee, Nat.reduceLT, zP.down, zQ.down]; done)
        · obtain ⟨i, hi⟩ : ∃ i : Nat, a = i := ⟨a.toNat, by omega⟩
          have hil : i ≤ t.length := by omega
          have hp3 := fun σ => hpiece σ i hil
          simp -implicitDefEqProofs (disch := first | exact nbf rfl | exact nbt rfl | (simp only [ne_eq, reduceCtorEq, not_false_eq_true]; done) | omega | (simp -implicitDefEqProofs only [St.n_push, St.n_put, St.n_bump, List.length_set] <;> omega) | fail) only [hi, hp3, aCallv, aPtrEq, XOp.kind, AOp.run, AO.eval, put, reduceCtorEq, aInt, Nat.reduceEqDiff, initEnv, V.bool, V.i64, resultsOf, AR.get, aExtract, aUn, Int.reduceEq, Int.reduceBEq, Int.reduceBNe, aBox, aLoad, aStore, aPart, aPlace, aArrAddr, aArrIdx, aIdx, aLenStr, aConv, aFold, aMinMax, aEqV, aNilCheck, fillV, aEqBool, aEqInt, aEqStr, Nat.reduceAdd, Nat.reduceLeDiff, Nat.reduceMul, Int.reduceLT, Int.reduceLE, Int.reduceToNat, Int.reduceGT, Int.reduceGE, Int.reduceNeg, Int.reduceAdd, Int.reduceSub, wrap64, chkAdd, effAdd, AOp.kind, chkAll, chkSee, Nat.reduceLT, zP.down, zQ.down]
          refine ⟨_, _, rfl, ?_, ?_, ?_, .inr ⟨i, rfl, hil, ?_, ?_⟩⟩
          all_goals (simp -implicitDefEqProofs (disch := first | exact nbf rfl | exact nbt rfl | (simp only [ne_eq, reduceCtorEq, not_false_eq_true]; done) | omega | (simp -implicitDefEqProofs only [St.n_push, St.n_put, St.n_bump, List.length_set] <;> omega) | fail) only [e0, e1, e2, hi, aCallv, aPtrEq, XOp.kind, AOp.run, AO.eval, put, reduceCtorEq, aInt, Nat.reduceEqDiff, initEnv, V.bool, V.i64, resultsOf, AR.get, aExtract, aUn, Int.reduceEq, Int.reduceBEq, Int.reduceBNe, aBox, aLoad, aStore, aPart, aPlace, aArrAddr, aArrIdx, aIdx, aLenStr, aConv, aFold, aMinMax, aEqV, aNilCheck, fillV, aEqBool, aEqInt, aEqStr, Nat.reduceAdd, Nat.reduceLeDiff, Nat.reduceMul, Int.reduceLT, Int.reduceLE, Int.reduceToNat, Int.reduceGT, Int.reduceGE, Int.reduceNeg, Int.reduceAdd, Int.reduceSub, wrap64, chkAdd, effAdd, AOp.kind, chkAll, chkSee, Nat.reduceLT, zP.down, zQ.down]; done)
      · rintro _ ⟨ρ', σ2, rfl, e0, e1, e2, hc⟩
        simp -implicitDefEqProofs (disch := first | exact nbf rfl | exact nbt rfl | (simp only [ne_eq, reduceCtorEq, not_false_eq_true]; done) | omega | (simp -implicitDefEqProofs only [St.n_push, St.n_put, St.n_bump, List.length_set] <;> omega) | fail) only [aCallv, aPtrEq, XOp.kind, AOp.run, AO.eval, put, reduceCtorEq, aInt, Nat.reduceEqDiff, initEnv, V.bool, V.i64, resultsOf, AR.get, aExtract, aUn, Int.reduceEq, Int.reduceBEq, Int.reduceBNe, aBox, aLoad, aStore, aPart, aPlace, aArrAddr, aArrIdx, aIdx, aLenStr, aConv, aFold, aMinMax, aEqV, aNilCheck, fillV, aEqBool, aEqInt, aEqStr, Nat.reduceAdd, Nat.reduceLeDiff, Nat.reduceMul, Int.reduceLT, Int.reduceLE, Int.reduceToNat, Int.reduceGT, Int.reduceGE, Int.reduceNeg, Int.reduceAdd, Int.reduceSub, wrap64, chkAdd, effAdd, AOp.kind, chkAll, chkSee, Nat.reduceLT, zP.down, zQ.down]
        refine w_seq ?_
        refine W.mono (Q := fun r => ∃ (ρ' : Env) (σ2 : St), r = ((.normal : Ex), ρ', σ2) ∧ ρ' 2 = x) ?_ ?_
        · rcases hc with ⟨hb, e10, e11⟩ | ⟨i, rfl, hi, e10, e11⟩
          · by_cases q4 : a < 0
            · have d1 : decide (a < 0) = true := by simpa using q4
              simp -implicitDefEqProofs (disch := first | exact nbf rfl | exact nbt rfl | (simp only [ne_eq, reduceCtorEq, not_false_eq_true]; done) | omega | (simp -implicitDefEqProofs only [St.n_push, St.n_put, St.n_bump, List.length_set] <;> omega) | fail) only [e0, e1, e10, e11, d1, str_ne, aCallv, aPtrEq, XOp.kind, AOp.run, AO.eval, put, reduceCtorEq, aInt, Nat.reduceEqDiff, initEnv, V.bool, V.i64, resultsOf, AR.get, aExtract, aUn, Int.reduceEq, Int.reduceBEq, Int.reduceBNe, aBox, aLoad, aStore, aPart, aPlace, aArrAddr, aArrIdx, aIdx, aLenStr, aConv, aFold, aMinMax, aEqV, aNilCheck, fillV, aEqBool, aEqInt, aEqStr, Nat.reduceAdd, Nat.reduceLeDiff, Nat.reduceMul, Int.reduceLT, Int.reduceLE, Int.reduceToNat, Int.reduceGT, Int.reduceGE, Int.reduceNeg, Int.reduceAdd, Int.reduceSub, wrap64, chkAdd, effAdd, AOp.kind, chkAll, chkSee, Nat.reduceLT, zP.down, zQ.down]
              exact ⟨_, _, rfl, by simp -implicitDefEqProofs (disch := first | exact nbf rfl | exact nbt rfl | (simp only [ne_eq, reduceCtorEq, not_false_eq_true]; done) | omega | (simp -implicitDefEqProofs only [St.n_push, St.n_put, St.n_bump, List.length_set] <;> omega) | fail) only [e2, aCallv, aPtrEq, XOp.kind, AOp.run, AO.eval, put, reduceCtorEq, aInt, Nat.reduceEqDiff, initEnv, V.bool, V.i64, resultsOf, AR.get, aExtract, aUn, Int.reduceEq, Int.reduceBEq, Int.reduceBNe, aBox, aLoad, aStore, aPart, aPlace, aArrAddr, aArrIdx, aIdx, aLenStr, aConv, aFold, aMinMax, aEqV, aNilCheck, fillV, aEqBool, aEqInt, aEqStr, Nat.reduceAdd, Nat.reduceLeDiff, Nat.reduceMul, Int.reduceLT, Int.reduceLE, Int.reduceToNat, Int.reduceGT, Int.reduceGE, Int.reduceNeg, Int.reduceAdd, Int.reduceSub, wrap64, chkAdd, effAdd, AOp.kind, chkAll, chkSee, Nat.reduceLT, zP.down, zQ.down]⟩
            · have d1 : decide (a < 0) = false := by simpa using q4
              have d2 : decide (a > (t.length : Int)) = true := by simp; omega
              simp -implicitDefEqProofs (disch := first | exact nbf rfl | exact nbt rfl | (simp only [ne_eq, reduceCtorEq, not_false_eq_true]; done) | omega | (simp -implicitDefEqProofs only [St.n_push, St.n_put, St.n_bump, List.length_set] <;> omega) | fail) only [e0, e1, e10, e11, d1, d2, str_ne, aCallv, aPtrEq, XOp.kind, AOp.run, AO.eval, put, reduceCtorEq, aInt, Nat.reduceEqDiff, initEnv, V.bool, V.i64, resultsOf, AR.get, aExtract, aUn, Int.reduceEq, Int.reduceBEq, Int.reduceBNe, aBox, aLoad, aStore, aPart, aPlace, aArrAddr, aArrIdx, aIdx, aLenStr, aConv, aFold, aMinMax, aEqV, aNilCheck, fillV, aEqBool, aEqInt, aEqStr, Nat.reduceAdd, Nat.reduceLeDiff, Nat.reduceMul, Int.reduceLT, Int.reduceLE, Int.reduceToNat, Int.reduceGT, Int.reduceGE, Int.reduceNeg, Int.reduceAdd, Int.reduceSub, wrap64, chkAdd, effAdd, AOp.kind, chkAll, chkSee, Nat.reduceLT, zP.down, zQ.down]
              exact ⟨_, _, rfl, by simp -implicitDefEqProofs (disch := first | exact nbf rfl | exact nbt rfl | (simp only [ne_eq, reduceCtorEq, not_false_eq_true]; done) | omega | (simp -implicitDefEqProofs only [St.n_push, St.n_put, St.n_bump, List.length_set] <;> omega) | fail) only [e2, aCallv, aPtrEq, XOp.kind, AOp.run, AO.eval, put, reduceCtorEq, aInt, Nat.reduceEqDiff, initEnv, V.bool, V.i64, resultsOf, AR.get, aExtract, aUn, Int.reduceEq, Int.reduceBEq, Int.reduceBNe, aBox, aLoad, aStore, aPart, aPlace, aArrAddr, aArrIdx, aIdx, aLenStr, aConv, aFold, aMinMax, aEqV, aNilCheck, fillV, aEqBool, aEqInt, aEqStr, Nat.reduceAdd, Nat.reduceLeDiff, Nat.reduceMul, Int.reduceLT, Int.reduceLE, Int.reduceToNat, Int.reduceGT, Int.reduceGE, Int.reduceNeg, Int.reduceAdd, Int.reduceSub, wrap64, chkAdd, effAdd, AOp.kind, chkAll, chkSee, Nat.reduceLT, zP.down, zQ.down]⟩
          · have d1 : decide ((i : Int) < 0) = false := by simp
            have d2 : decide ((i : Int) > (t.length : Int)) = false := by simp; omega
            have w1 : IntKind.i64.wrap ((i : Int) + 2048) = (i : Int) + 2048 := wrap64 (by omega) (by omega)
            have pm : (if (t.length : Int) < (i : Int) + 2048 then (t.length : Int) else (i : Int) + 2048) = ((min (i + 2048) t.length : Nat) : Int) := pcm
            have hs := str_sl (s := t) (l := i) (h := min (i + 2048) t.length) (by omega) (by omega)
            simp -implicitDefEqProofs (disch := first | exact nbf rfl | exact nbt rfl | (simp only [ne_eq, reduceCtorEq, not_false_eq_true]; done) | omega | (simp -implicitDefEqProofs only [St.n_push, St.n_put, St.n_bump, List.length_set] <;> omega) | fail) only [e0, e1, e10, e11, d1, d2, w1, pm, hs, str_ne, pc, aCallv, aPtrEq, XOp.kind, AOp.run, AO.eval, put, reduceCtorEq, aInt, Nat.reduceEqDiff, initEnv, V.bool, V.i64, resultsOf, AR.get, aExtract, aUn, Int.reduceEq, Int.reduceBEq, Int.reduceBNe, aBox, aLoad, aStore, aPart, aPlace, aArrAddr, aArrIdx, aIdx, aLenStr, aConv, aFold, aMinMax, aEqV, aNilCheck, fillV, aEqBool, aEqInt, aEqStr, Nat.reduceAdd, Nat.reduceLeDiff, Nat.reduceMul, Int.reduceLT, Int.reduceLE, Int.reduceToNat, Int.reduceGT, Int.reduceGE, Int.reduceNeg, Int.reduceAdd, Int.reduceSub, wrap64, chkAdd, effAdd, AOp.kind, chkAll, chkSee, Nat.reduceLT, zP.down, zQ.down]
            exact ⟨_, _, rfl, by simp -implicitDefEqProofs (disch := first | exact nbf rfl | exact nbt rfl | (simp only [ne_eq, reduceCtorEq, not_false_eq_true]; done) | omega | (simp -implicitDefEqProofs only [St.n_push, St.n_put, St.n_bump, List.length_set] <;> omega) | fail) only [e2, aCallv, aPtrEq, XOp.kind, AOp.run, AO.eval, put, reduceCtorEq, aInt, Nat.reduceEqDiff, initEnv, V.bool, V.i64, resultsOf, AR.get, aExtract, aUn, Int.reduceEq, Int.reduceBEq, Int.reduceBNe, aBox, aLoad, aStore, aPart, aPlace, aArrAddr, aArrIdx, aIdx, aLenStr, aConv, aFold, aMinMax, aEqV, aNilCheck, fillV, aEqBool, aEqInt, aEqStr, Nat.reduceAdd, Nat.reduceLeDiff, Nat.reduceMul, Int.reduceLT, Int.reduceLE, Int.reduceToNat, Int.reduceGT, Int.reduceGE, Int.reduceNeg, Int.reduceAdd, Int.reduceSub, wrap64, chkAdd, effAdd, AOp.kind, chkAll, chkSee, Nat.reduceLT, zP.down, zQ.down]⟩
        · rintro _ ⟨ρ', σ2, rfl, e2⟩
          simp -implicitDefEqProofs (disch := first | exact nbf rfl | exact nbt rfl | (simp only [ne_eq, reduceCtorEq, not_false_eq_true]; done) | omega | (simp -implicitDefEqProofs only [St.n_push, St.n_put, St.n_bump, List.length_set] <;> omega) | fail) only [e2, hlen, aCallv, aPtrEq, XOp.kind, AOp.run, AO.eval, put, reduceCtorEq, aInt, Nat.reduceEqDiff, initEnv, V.bool, V.i64, resultsOf, AR.get, aExtract, aUn, Int.reduceEq, Int.reduceBEq, Int.reduceBNe, aBox, aLoad, aStore, aPart, aPlace, aArrAddr, aArrIdx, aIdx, aLenStr, aConv, aFold, aMinMax, aEqV, aNilCheck, fillV, aEqBool, aEqInt, aEqStr, Nat.reduceAdd, Nat.reduceLeDiff, Nat.reduceMul, Int.reduceLT, Int.reduceLE, Int.reduceToNat, Int.reduceGT, Int.reduceGE, Int.reduceNeg, Int.reduceAdd, Int.reduceSub, wrap64, chkAdd, effAdd, AOp.kind, chkAll, chkSee, Nat.reduceLT, zP.down, zQ.down]
          repeat (first | refine w_fin ?_ | refine w_seq ?_ | refine w_block ?_ | refine w_reg ?_ | refine w_op ?_ | refine w_dop ?_)
          refine (hnew σ2).mono ?_
          rintro ⟨_, σ3⟩ ⟨rfl, hI, k3, hn3⟩
          dsimp only at hI k3 hn3
          simp -implicitDefEqProofs (disch := first | exact nbf rfl | exact nbt rfl | (simp only [ne_eq, reduceCtorEq, not_false_eq_true]; done) | omega | (simp -implicitDefEqProofs only [St.n_push, St.n_put, St.n_bump, List.length_set] <;> omega) | fail) only [e2, hlen, aCallv, aPtrEq, XOp.kind, AOp.run, AO.eval, put, reduceCtorEq, aInt, Nat.reduceEqDiff, initEnv, V.bool, V.i64, resultsOf, AR.get, aExtract, aUn, Int.reduceEq, Int.reduceBEq, Int.reduceBNe, aBox, aLoad, aStore, aPart, aPlace, aArrAddr, aArrIdx, aIdx, aLenStr, aConv, aFold, aMinMax, aEqV, aNilCheck, fillV, aEqBool, aEqInt, aEqStr, Nat.reduceAdd, Nat.reduceLeDiff, Nat.reduceMul, Int.reduceLT, Int.reduceLE, Int.reduceToNat, Int.reduceGT, Int.reduceGE, Int.reduceNeg, Int.reduceAdd, Int.reduceSub, wrap64, chkAdd, effAdd, AOp.kind, chkAll, chkSee, Nat.reduceLT, zP.down, zQ.down]
          repeat (first | refine w_fin ?_ | refine w_seq ?_ | refine w_block ?_ | refine w_reg ?_ | refine w_op ?_ | refine w_dop ?_)
          generalize hd : σ2.n = d at *
          have hw0 : WR (σ3.push (.cells [.sc (.int .i64 0), .sc (.int .i64 0), .sc (.int .i64 0), .str []])) σ3.n I0 := get_push_self
          have hI0 : IR (d + 2) (σ3.push (.cells [.sc (.int .i64 0), .sc (.int .i64 0), .sc (.int .i64 0), .str []])) d I0 := by
            obtain ⟨v, g1, g2⟩ := hI (d + 2)
            exact ⟨v, get_push_lt g1, g2.kept0 ((Kept.refl _ _).push _)⟩
          have hn4 : d + 2 ≤ (σ3.push (.cells [.sc (.int .i64 0), .sc (.int .i64 0), .sc (.int .i64 0), .str []])).n := by simp; omega
          rw [hn3] at hw0 ⊢
          generalize (σ3.push (.cells [.sc (.int .i64 0), .sc (.int .i64 0), .sc (.int .i64 0), .str []])) = σ4 at *
          refine W.mono (Q := fun r => ∃ (ρ : Env) (σ : St), r = ((.exit 3 : Ex), ρ, σ)) ?_ ?_
          · refine w_loop (fun m ρ σ => ∃ (i : Nat) (y : IB), m = l.length - i ∧ i ≤ l.length ∧ IR (d + 2) σ d y ∧ WR σ (d + 1) y ∧ y.Ok ∧ d + 2 ≤ σ.n ∧ ρ 12 = .ptr d 0 ∧ ρ 13 = .ptr (d + 1) 0 ∧ ρ 87 = x ∧ ρ 88 = .sc (.int .i64 l.length) ∧ ρ 89 = .sc (.int .i64 i)) l.length (by omega) ?_ ?_
            · refine ⟨0, I0, rfl, Nat.zero_le _, hI0, hw0, I0.ok, hn4, ?_, ?_, ?_, ?_, ?_⟩
              all_goals first | rfl | (simp -implicitDefEqProofs (disch := first | exact nbf rfl | exact nbt rfl | (simp only [ne_eq, reduceCtorEq, not_false_eq_true]; done) | omega | (simp -implicitDefEqProofs only [St.n_push, St.n_put, St.n_bump, List.length_set] <;> omega) | fail) only [aCallv, aPtrEq, XOp.kind, AOp.run, AO.eval, put, reduceCtorEq, aInt, Nat.reduceEqDiff, initEnv, V.bool, V.i64, resultsOf, AR.get, aExtract, aUn, Int.reduceEq, Int.reduceBEq, Int.reduceBNe, aBox, aLoad, aStore, aPart, aPlace, aArrAddr, aArrIdx, aIdx, aLenStr, aConv, aFold, aMinMax, aEqV, aNilCheck, fillV, aEqBool, aEqInt, aEqStr, Nat.reduceAdd, Nat.reduceLeDiff, Nat.reduceMul, Int.reduceLT, Int.reduceLE, Int.reduceToNat, Int.reduceGT, Int.reduceGE, Int.reduceNeg, Int.reduceAdd, Int.reduceSub, wrap64, chkAdd, effAdd, AOp.kind, chkAll, chkSee, Nat.reduceLT, zP.down, zQ.down]; done) | (simp -implicitDefEqProofs (disch := first | exact nbf rfl | exact nbt rfl | (simp only [ne_eq, reduceCtorEq, not_false_eq_true]; done) | omega | (simp -implicitDefEqProofs only [St.n_push, St.n_put, St.n_bump, List.length_set] <;> omega) | fail) only [aCallv, aPtrEq, XOp.kind, AOp.run, AO.eval, put, reduceCtorEq, aInt, Nat.reduceEqDiff, initEnv, V.bool, V.i64, resultsOf, AR.get, aExtract, aUn, Int.reduceEq, Int.reduceBEq, Int.reduceBNe, aBox, aLoad, aStore, aPart, aPlace, aArrAddr, aArrIdx, aIdx, aLenStr, aConv, aFold, aMinMax, aEqV, aNilCheck, fillV, aEqBool, aEqInt, aEqStr, Nat.reduceAdd, Nat.reduceLeDiff, Nat.reduceMul, Int.reduceLT, Int.reduceLE, Int.reduceToNat, Int.reduceGT, Int.reduceGE, Int.reduceNeg, Int.reduceAdd, Int.reduceSub, wrap64, chkAdd, effAdd, AOp.kind, chkAll, chkSee, Nat.reduceLT, zP.down, zQ.down]; rfl)
            · rintro m ρ σ ⟨i, y, hm, hi, hIR, hWR, hy, hn, e12, e13, e87, e88, e89⟩
              by_cases hl : i < l.length
              · have c1 : decide ((i : Int) < (l.length : Int)) = true := by simpa using hl
                obtain ⟨a1, a2, a3⟩ := h.rv.at (i := i) (by simpa using hl)
                simp only [List.getElem_map] at a3
                have hcell := h.en _ (List.getElem_mem hl)
                have hc1 := hcell.1
                have hc2 := hcell.2
                have hpd := hp _ (List.getElem_mem hl)
                generalize l[i] = p at *
                have w3 : IntKind.i64.wrap ((i : Int) + 1) = (i : Int) + 1 := wrap64 (by omega) (by omega)
                have hb1 : IR (d + 2) σ.bump d y := by
                  obtain ⟨v, g1, g2⟩ := hIR
                  exact ⟨v, by rw [St.get_bump]; exact g1, g2.kept0 (Kept.refl _ _).bump⟩
                have hb2 : WR σ.bump (d + 1) y := by unfold WR at *; rw [St.get_bump]; exact hWR
                have f1 := hput σ.bump d (d + 2) y p hb1 hy hcell (by simp; omega) (by omega) (by omega)
                have f2 := fun σ hw => hrput σ (d + 1) y p hw hy hcell (by omega)
                simp only [mc] at a3 f1 f2
                simp -implicitDefEqProofs (disch := first | exact nbf rfl | exact nbt rfl | (simp only [ne_eq, reduceCtorEq, not_false_eq_true]; done) | omega | (simp -implicitDefEqProofs only [St.n_push, St.n_put, St.n_bump, List.length_set] <;> omega) | fail) only [c1, e12, e13, e87, e88, e89, a1, a2, a3, hsize, hc1, hc2, aCallv, aPtrEq, XOp.kind, AOp.run, AO.eval, put, reduceCtorEq, aInt, Nat.reduceEqDiff, initEnv, V.bool, V.i64, resultsOf, AR.get, aExtract, aUn, Int.reduceEq, Int.reduceBEq, Int.reduceBNe, aBox, aLoad, aStore, aPart, aPlace, aArrAddr, aArrIdx, aIdx, aLenStr, aConv, aFold, aMinMax, aEqV, aNilCheck, fillV, aEqBool, aEqInt, aEqStr, Nat.reduceAdd, Nat.reduceLeDiff, Nat.reduceMul, Int.reduceLT, Int.reduceLE, Int.reduceToNat, Int.reduceGT, Int.reduceGE, Int.reduceNeg, Int.reduceAdd, Int.reduceSub, wrap64, chkAdd, effAdd, AOp.kind, chkAll, chkSee, Nat.reduceLT, zP.down, zQ.down]
                repeat (first | refine w_fin ?_ | refine w_seq ?_ | refine w_block ?_ | refine w_reg ?_ | refine w_op ?_ | refine w_dop ?_)
                refine f1.mono ?_
                rintro ⟨_, σ5⟩ ⟨rfl, h5, k5, n5⟩
                dsimp only at h5 k5 n5
                have hw5 : WR σ5 (d + 1) y := k5 _ _ hb2 (by omega) (by omega)
                simp -implicitDefEqProofs (disch := first | exact nbf rfl | exact nbt rfl | (simp only [ne_eq, reduceCtorEq, not_false_eq_true]; done) | omega | (simp -implicitDefEqProofs only [St.n_push, St.n_put, St.n_bump, List.length_set] <;> omega) | fail) only [ot, e12, e13, aCallv, aPtrEq, XOp.kind, AOp.run, AO.eval, put, reduceCtorEq, aInt, Nat.reduceEqDiff, initEnv, V.bool, V.i64, resultsOf, AR.get, aExtract, aUn, Int.reduceEq, Int.reduceBEq, Int.reduceBNe, aBox, aLoad, aStore, aPart, aPlace, aArrAddr, aArrIdx, aIdx, aLenStr, aConv, aFold, aMinMax, aEqV, aNilCheck, fillV, aEqBool, aEqInt, aEqStr, Nat.reduceAdd, Nat.reduceLeDiff, Nat.reduceMul, Int.reduceLT, Int.reduceLE, Int.reduceToNat, Int.reduceGT, Int.reduceGE, Int.reduceNeg, Int.reduceAdd, Int.reduceSub, wrap64, chkAdd, effAdd, AOp.kind, chkAll, chkSee, Nat.reduceLT, zP.down, zQ.down]
                repeat (first | refine w_fin ?_ | refine w_seq ?_ | refine w_block ?_ | refine w_reg ?_ | refine w_op ?_ | refine w_dop ?_)
                refine (f2 σ5 hw5).mono ?_
                rintro ⟨_, σ6⟩ ⟨rfl, h6, k6⟩
                dsimp only at h6 k6
                have h7 : IR (d + 2) σ6 d (iput y p) := by
                  obtain ⟨v, g1, g2⟩ := h5
                  refine ⟨v, k6.get _ _ (by omega) g1, g2.kept k6 ?_⟩
                  rintro _ rfl
                  rw [show σ5.get (d + 1) = _ from hw5]; simp
                have z1 : ((iout y p).1 != (iout y p).1) = false := by simp
                have z3 : ∀ b : Bool, (!(b == b)) = false := by simp
                simp -implicitDefEqProofs (disch := first | exact nbf rfl | exact nbt rfl | (simp only [ne_eq, reduceCtorEq, not_false_eq_true]; done) | omega | (simp -implicitDefEqProofs only [St.n_push, St.n_put, St.n_bump, List.length_set] <;> omega) | fail) only [ot, e12, e13, e87, e88, e89, z1, z3, str_ne, w3, aCallv, aPtrEq, XOp.kind, AOp.run, AO.eval, put, reduceCtorEq, aInt, Nat.reduceEqDiff, initEnv, V.bool, V.i64, resultsOf, AR.get, aExtract, aUn, Int.reduceEq, Int.reduceBEq, Int.reduceBNe, aBox, aLoad, aStore, aPart, aPlace, aArrAddr, aArrIdx, aIdx, aLenStr, aConv, aFold, aMinMax, aEqV, aNilCheck, fillV, aEqBool, aEqInt, aEqStr, Nat.reduceAdd, Nat.reduceLeDiff, Nat.reduceMul, Int.reduceLT, Int.reduceLE, Int.reduceToNat, Int.reduceGT, Int.reduceGE, Int.reduceNeg, Int.reduceAdd, Int.reduceSub, wrap64, chkAdd, effAdd, AOp.kind, chkAll, chkSee, Nat.reduceLT, zP.down, zQ.down]
                have n6 := k6.n
                exact ⟨l.length - (i + 1), by omega, i + 1, iput y p, rfl, hl, h7, h6, iput_ok hy p, by have := hb1; simp at n5; omega, by simp⟩
              · have c1 : decide ((i : Int) < (l.length : Int)) = false := by simpa using hl
                simp -implicitDefEqProofs (disch := first | exact nbf rfl | exact nbt rfl | (simp only [ne_eq, reduceCtorEq, not_false_eq_true]; done) | omega | (simp -implicitDefEqProofs only [St.n_push, St.n_put, St.n_bump, List.length_set] <;> omega) | fail) only [c1, e88, e89, aCallv, aPtrEq, XOp.kind, AOp.run, AO.eval, put, reduceCtorEq, aInt, Nat.reduceEqDiff, initEnv, V.bool, V.i64, resultsOf, AR.get, aExtract, aUn, Int.reduceEq, Int.reduceBEq, Int.reduceBNe, aBox, aLoad, aStore, aPart, aPlace, aArrAddr, aArrIdx, aIdx, aLenStr, aConv, aFold, aMinMax, aEqV, aNilCheck, fillV, aEqBool, aEqInt, aEqStr, Nat.reduceAdd, Nat.reduceLeDiff, Nat.reduceMul, Int.reduceLT, Int.reduceLE, Int.reduceToNat, Int.reduceGT, Int.reduceGE, Int.reduceNeg, Int.reduceAdd, Int.reduceSub, wrap64, chkAdd, effAdd, AOp.kind, chkAll, chkSee, Nat.reduceLT, zP.down, zQ.down]
                exact ⟨_, _, rfl⟩
          · rintro _ ⟨ρ, σ, rfl⟩
            simp -implicitDefEqProofs (disch := first | exact nbf rfl | exact nbt rfl | (simp only [ne_eq, reduceCtorEq, not_false_eq_true]; done) | omega | (simp -implicitDefEqProofs only [St.n_push, St.n_put, St.n_bump, List.length_set] <;> omega) | fail) only [aCallv, aPtrEq, XOp.kind, AOp.run, AO.eval, put, reduceCtorEq, aInt, Nat.reduceEqDiff, initEnv, V.bool, V.i64, resultsOf, AR.get, aExtract, aUn, Int.reduceEq, Int.reduceBEq, Int.reduceBNe, aBox, aLoad, aStore, aPart, aPlace, aArrAddr, aArrIdx, aIdx, aLenStr, aConv, aFold, aMinMax, aEqV, aNilCheck, fillV, aEqBool, aEqInt, aEqStr, Nat.reduceAdd, Nat.reduceLeDiff, Nat.reduceMul, Int.reduceLT, Int.reduceLE, Int.reduceToNat, Int.reduceGT, Int.reduceGE, Int.reduceNeg, Int.reduceAdd, Int.reduceSub, wrap64, chkAdd, effAdd, AOp.kind, chkAll, chkSee, Nat.reduceLT, zP.down, zQ.down]
end Go.Proofs.Ytjcobnjnjliehaa.sn
namespace Go.Proofs.Ytjcobnjnjliehaa.sn
open Go.Ab
set_option maxRecDepth 100000
set_option maxHeartbeats 8000000
set_option linter.unusedSimpArgs false
set_option linter.unusedVariables false

/-- A message with a piece. -/
def pm (i t : Int) (text : List UInt8) (f : Nat) : Ms := ⟨0, 0, 0, 0, i, t, 0, 0, false, .sc .nilS, f, text.length, pc text f, 0, 0, 0, 0, 0, 0, 0, 0, 0⟩
theorem pc_len (t : List UInt8) (i : Nat) (h : i ≤ t.length) : (pc t i).length = min 2048 (t.length - i) := by
  unfold pc
  rw [List.length_take, List.length_drop]
  omega
theorem pc_add (t : List UInt8) (i : Nat) (h : i ≤ t.length) : t.take i ++ pc t i = t.take (i + (pc t i).length) := by
  have hl := pc_len t i h
  unfold pc at *
  rw [List.take_add, List.length_take, List.length_drop]
  congr 1
  rw [List.take_eq_take_iff, List.length_drop]
  omega
/-- What the inbox holds behind so many bytes. -/
def hold (i t : Int) (text : List UInt8) (at' : Nat) : IB := ⟨i, t, text.length, text.take at'⟩
theorem hold_ok (i t : Int) (text : List UInt8) (a : Nat) (h : text.length ≤ 65536) : (hold i t text a).Ok := ⟨by simp [hold]; omega, by simp [hold]; omega⟩
/-- A step: where it stands behind it. -/
def nx (text : List UInt8) (at' f : Nat) : Nat := if f = at' then at' + (pc text at').length else at'
theorem nx_le {text : List UInt8} {at' f : Nat} (h : at' ≤ text.length) : at' ≤ nx text at' f ∧ nx text at' f ≤ text.length := by
  unfold nx
  have := pc_len text at' h
  split <;> omega
theorem put_pm {i t : Int} (hi : 1 ≤ i) {text : List UInt8} (hl : text.length ≤ 65536) {at' f : Nat} (ha : at' ≤ text.length) (hf : f ≤ text.length) {x : IB} (hx : x = hold i t text at' ∨ (x = I0 ∧ at' = 0)) :
    iput x (pm i t text f) = hold i t text (nx text at' f) := by
  have hb : ¬ ibad (pm i t text f) := by unfold ibad pm; simp only; omega
  have hn : inew x (pm i t text f) = hold i t text at' := by
    rcases hx with rfl | ⟨rfl, rfl⟩
    · unfold inew
      rw [if_pos ⟨rfl, rfl, rfl⟩]
    · unfold inew
      rw [if_neg (by simp [I0, pm]; omega)]
      simp [hold, pm]
  unfold iput
  rw [if_neg hb, hn]
  unfold iadd nx
  have h0 : (hold i t text at').tx.length = at' := by simp [hold]; omega
  by_cases c : f = at'
  · subst c
    have hp := pc_len text f ha
    rw [if_pos rfl, if_pos ⟨by rw [h0]; rfl, by rw [h0]; show ((pc text f).length : Int) ≤ (text.length : Int) - f; omega⟩]
    show IB.mk i t text.length (text.take f ++ pc text f) = _
    rw [pc_add _ _ ha]; rfl
  · rw [if_neg c, if_neg (by rw [h0]; show ¬ ((f : Int) = at' ∧ _); omega)]
theorem out_pm {i t : Int} (hi : 1 ≤ i) {text : List UInt8} (hl : text.length ≤ 65536) {at' f : Nat} (ha : at' ≤ text.length) (hf : f ≤ text.length) {x : IB} (hx : x = hold i t text at' ∨ (x = I0 ∧ at' = 0)) :
    iout x (pm i t text f) = if nx text at' f < text.length then ((nx text at' f : Int), [], false) else ((text.length : Int), text, true) := by
  have hb : ¬ ibad (pm i t text f) := by unfold ibad pm; simp only; omega
  unfold iout
  rw [if_neg hb, put_pm hi hl ha hf hx]
  have hle := (nx_le (f := f) ha).2
  unfold itell hold
  simp only
  have e : (text.take (nx text at' f)).length = nx text at' f := by simp; omega
  rw [e]
  by_cases c : nx text at' f < text.length
  · rw [if_pos c, if_pos (by omega)]
  · rw [if_neg c, if_neg (by omega), List.take_of_length_le (by omega)]
end Go.Proofs.Ytjcobnjnjliehaa.sn
namespace Go.Proofs.Ytjcobnjnjliehaa.sn
open Go.Ab fr
set_option maxRecDepth 100000
set_option maxHeartbeats 8000000
set_option linter.unusedSimpArgs false
set_option linter.unusedVariables false

def magic : List UInt8 := [115, 110, 97, 112, 115, 104, 111, 116]
def shead (i t n : Nat) : List UInt8 := magic ++ be 8 i ++ be 8 t ++ be 8 n
theorem shead_len (i t n : Nat) : (shead i t n).length = 32 := by simp [shead, be_len, magic]
def pcs (x : List UInt8) : List (List UInt8) := (List.range ((x.length + 2047) / 2048)).map fun i => pc x (2048 * i)
def fputs (l : List (List UInt8)) : List UInt8 := (l.map fput).flatten
def sfile (i t : Nat) (x : List UInt8) : List UInt8 := fput (shead i t x.length) ++ fputs (pcs x)
theorem fputs_append (a b : List (List UInt8)) : fputs (a ++ b) = fputs a ++ fputs b := by simp [fputs]
theorem fputs_len (l : List (List UInt8)) : (fputs l).length = flen l := by
  induction l with
  | nil => rfl
  | cons p l ih => simp only [fputs, List.map_cons, List.flatten_cons, List.length_append, flen, fput_len] at ih ⊢; rw [ih]
theorem pcs_len (x : List UInt8) : (pcs x).length = (x.length + 2047) / 2048 := by simp [pcs]
theorem pcs_at {x : List UInt8} {j : Nat} (h : j < (pcs x).length) : (pcs x)[j] = pc x (2048 * j) := by simp [pcs]
theorem pcs_take (x : List UInt8) : ∀ j, j ≤ (pcs x).length → ((pcs x).take j).flatten = x.take (2048 * j)
  | 0, _ => by simp
  | j + 1, h => by
    have hl := pcs_len x
    rw [List.take_add_one, List.getElem?_eq_getElem (by omega), List.flatten_append, pcs_take x j (by omega), pcs_at (by omega)]
    simp only [Option.toList_some, List.flatten_cons, List.flatten_nil, List.append_nil]
    rw [pc_add _ _ (by omega), pc_len _ _ (by omega)]
    rw [List.take_eq_take_iff]
    omega
theorem pcs_flat (x : List UInt8) : (pcs x).flatten = x := by
  have h := pcs_take x (pcs x).length (Nat.le_refl _)
  rw [List.take_length] at h
  rw [h]
  exact List.take_of_length_le (by rw [pcs_len]; omega)
theorem pcs_small {x p : List UInt8} (h : p ∈ pcs x) : p.length ≤ 2048 := by
  obtain ⟨j, hj, rfl⟩ := List.mem_map.1 h
  unfold pc
  rw [List.length_take]
  omega
theorem flen_pcs (x : List UInt8) : ∀ j, j ≤ (pcs x).length → flen ((pcs x).take j) ≤ 2048 * j + 12 * j
  | 0, _ => by simp [flen]
  | j + 1, h => by
    have := flen_pcs x j (by omega)
    rw [List.take_add_one, List.getElem?_eq_getElem (by omega), flen_append, pcs_at (by omega)]
    have hl := pcs_len x
    have h2 := pc_len x (2048 * j) (by omega)
    simp only [Option.toList_some, flen]
    omega

theorem file_ok (k : Nat) (ys : YlF) (σ : St) (i t : Nat) (x : List UInt8) (hi : i < 9223372036854775808) (ht : t < 9223372036854775808) (hx : x.length ≤ 2000000) (hk : 10000 ≤ k) :
    W (callY Tab.tb (k + 5) ys 35 [.agg [.sc (.int .i64 i), .sc (.int .i64 t)], .str x] σ) fun r => r.1 = .str (sfile i t x) ∧ Kept noX σ r.2 := by
  rw [s_call (af := Tab.b35) rfl (Nat.le_of_ble_eq_true rfl)]
  have hu := fun σ n hn => u64_ok (k + 2) ys σ n hn
  have hp := fun σ p hp => fr.put_ok k ys σ p hp (by omega)
  have hpc := fun σ i h => piece_ok (k + 3) ys σ x i h (by omega)
  generalize callY Tab.tb (k + 4) = cy at hu hp hpc ⊢
  have c1 : IntKind.u64.wrap (i : Int) = i := wrap_u64 (by omega)
  have c2 : IntKind.u64.wrap (t : Int) = t := wrap_u64 (by omega)
  have c3 : IntKind.u64.wrap (x.length : Int) = (x.length : Nat) := wrap_u64 (by omega)
  have u1 := fun σ => hu σ i (by omega)
  have u2 := fun σ => hu σ t (by omega)
  have u3 := fun σ => hu σ x.length (by omega)
  have a1 : aBin .add (.str [115, 110, 97, 112, 115, 104, 111, 116]) (.str (be 8 i)) = some (.str (magic ++ be 8 i)) := str_add (a := magic) (by rw [be_len]; decide)
  have a2 := str_add (a := magic ++ be 8 i) (b := be 8 t) (by simp [be_len, magic])
  have a3 : aBin .add (.str (magic ++ be 8 i ++ be 8 t)) (.str (be 8 x.length)) = some (.str (shead i t x.length)) := str_add (by simp [be_len, magic])
  simp -implicitDefEqProofs (disch := first | exact nbf rfl | exact nbt rfl | (simp only [ne_eq, reduceCtorEq, not_false_eq_true]; done) | omega | (simp -implicitDefEqProofs only [St.n_push, St.n_put, St.n_bump, List.length_set] <;> omega) | fail) only [Tab.b35, c1, c2, c3, u1, u2, u3, a1, a2, a3, aCallv, aPtrEq, XOp.kind, AOp.run, AO.eval, put, reduceCtorEq, aInt, Nat.reduceEqDiff, initEnv, V.bool, V.i64, resultsOf, AR.get, aExtract, aUn, Int.reduceEq, Int.reduceBEq, Int.reduceBNe, aBox, aLoad, aStore, aPart, aPlace, aArrAddr, aArrIdx, aIdx, aLenStr, aConv, aFold, aMinMax, aEqV, aNilCheck, fillV, aEqBool, aEqInt, aEqStr, Nat.reduceAdd, Nat.reduceLeDiff, Nat.reduceMul, Int.reduceLT, Int.reduceLE, Int.reduceToNat, Int.reduceGT, Int.reduceGE, Int.reduceNeg, Int.reduceAdd, Int.reduceSub, wrap64, chkAdd, effAdd, AOp.kind, chkAll, chkSee, Nat.reduceLT, zP.down, zQ.down]
  repeat (first | refine w_fin ?_ | refine w_seq ?_ | refine w_block ?_ | refine w_reg ?_ | refine w_op ?_ | refine w_dop ?_)
  refine (hp _ (shead i t x.length) (by rw [shead_len]; decide)).mono ?_
  rintro ⟨_, σ1⟩ ⟨rfl, k1⟩
  dsimp only at k1
  simp -implicitDefEqProofs (disch := first | exact nbf rfl | exact nbt rfl | (simp only [ne_eq, reduceCtorEq, not_false_eq_true]; done) | omega | (simp -implicitDefEqProofs only [St.n_push, St.n_put, St.n_bump, List.length_set] <;> omega) | fail) only [aCallv, aPtrEq, XOp.kind, AOp.run, AO.eval, put, reduceCtorEq, aInt, Nat.reduceEqDiff, initEnv, V.bool, V.i64, resultsOf, AR.get, aExtract, aUn, Int.reduceEq, Int.reduceBEq, Int.reduceBNe, aBox, aLoad, aStore, aPart, aPlace, aArrAddr, aArrIdx, aIdx, aLenStr, aConv, aFold, aMinMax, aEqV, aNilCheck, fillV, aEqBool, aEqInt, aEqStr, Nat.reduceAdd, Nat.reduceLeDiff, Nat.reduceMul, Int.reduceLT, Int.reduceLE, Int.reduceToNat, Int.reduceGT, Int.reduceGE, Int.reduceNeg, Int.reduceAdd, Int.reduceSub, wrap64, chkAdd, effAdd, AOp.kind, chkAll, chkSee, Nat.reduceLT, zP.down, zQ.down]
  repeat (first | refine w_fin ?_ | refine w_seq ?_ | refine w_block ?_ | refine w_reg ?_ | refine w_op ?_ | refine w_dop ?_)
  have hl := pcs_len x
  refine W.mono (Q := fun q => ∃ (ρ : Env) (σ' : St), q = ((.exit 0 : Ex), ρ, σ') ∧ ρ 5 = .str (sfile i t x) ∧ Kept noX σ σ') ?_ ?_
  · refine w_loop (fun m ρ σ' => ∃ j, m = (pcs x).length - j ∧ j ≤ (pcs x).length ∧ ρ 1 = .str x ∧ ρ 5 = .str (fput (shead i t x.length) ++ fputs ((pcs x).take j)) ∧ ρ 7 = .sc (.int .i64 ((2048 * j : Nat) : Int)) ∧ Kept noX σ σ') (pcs x).length (by omega) ?_ ?_
    · refine ⟨0, rfl, Nat.zero_le _, ?_, ?_, ?_, (Kept.refl _ _).bump.trans k1⟩
      all_goals first | rfl | (simp -implicitDefEqProofs (disch := first | exact nbf rfl | exact nbt rfl | (simp only [ne_eq, reduceCtorEq, not_false_eq_true]; done) | omega | (simp -implicitDefEqProofs only [St.n_push, St.n_put, St.n_bump, List.length_set] <;> omega) | fail) only [aCallv, aPtrEq, XOp.kind, AOp.run, AO.eval, put, reduceCtorEq, aInt, Nat.reduceEqDiff, initEnv, V.bool, V.i64, resultsOf, AR.get, aExtract, aUn, Int.reduceEq, Int.reduceBEq, Int.reduceBNe, aBox, aLoad, aStore, aPart, aPlace, aArrAddr, aArrIdx, aIdx, aLenStr, aConv, aFold, aMinMax, aEqV, aNilCheck, fillV, aEqBool, aEqInt, aEqStr, Nat.reduceAdd, Nat.reduceLeDiff, Nat.reduceMul, Int.reduceLT, Int.reduceLE, Int.reduceToNat, Int.reduceGT, Int.reduceGE, Int.reduceNeg, Int.reduceAdd, Int.reduceSub, wrap64, chkAdd, effAdd, AOp.kind, chkAll, chkSee, Nat.reduceLT, zP.down, zQ.down]; done) | (simp -implicitDefEqProofs (disch := first | exact nbf rfl | exact nbt rfl | (simp only [ne_eq, reduceCtorEq, not_false_eq_true]; done) | omega | (simp -implicitDefEqProofs only [St.n_push, St.n_put, St.n_bump, List.length_set] <;> omega) | fail) only [fputs, aCallv, aPtrEq, XOp.kind, AOp.run, AO.eval, put, reduceCtorEq, aInt, Nat.reduceEqDiff, initEnv, V.bool, V.i64, resultsOf, AR.get, aExtract, aUn, Int.reduceEq, Int.reduceBEq, Int.reduceBNe, aBox, aLoad, aStore, aPart, aPlace, aArrAddr, aArrIdx, aIdx, aLenStr, aConv, aFold, aMinMax, aEqV, aNilCheck, fillV, aEqBool, aEqInt, aEqStr, Nat.reduceAdd, Nat.reduceLeDiff, Nat.reduceMul, Int.reduceLT, Int.reduceLE, Int.reduceToNat, Int.reduceGT, Int.reduceGE, Int.reduceNeg, Int.reduceAdd, Int.reduceSub, wrap64, chkAdd, effAdd, AOp.kind, chkAll, chkSee, Nat.reduceLT, zP.down, zQ.down]; done)
    · rintro m ρ σ' ⟨j, hm, hj, e1, e5, e7, kp⟩
      by_cases hlt : 2048 * j < x.length
      · have d1 : decide (((2048 * j : Nat) : Int) < (x.length : Int)) = true := by simp only [decide_eq_true_eq]; omega
        have hjl : j < (pcs x).length := by omega
        have p1 := fun σ => hpc σ (2048 * j) (by omega)
        have hpl := pc_len x (2048 * j) (by omega)
        simp -implicitDefEqProofs (disch := first | exact nbf rfl | exact nbt rfl | (simp only [ne_eq, reduceCtorEq, not_false_eq_true]; done) | omega | (simp -implicitDefEqProofs only [St.n_push, St.n_put, St.n_bump, List.length_set] <;> omega) | fail) only [d1, e1, e5, e7, p1, aCallv, aPtrEq, XOp.kind, AOp.run, AO.eval, put, reduceCtorEq, aInt, Nat.reduceEqDiff, initEnv, V.bool, V.i64, resultsOf, AR.get, aExtract, aUn, Int.reduceEq, Int.reduceBEq, Int.reduceBNe, aBox, aLoad, aStore, aPart, aPlace, aArrAddr, aArrIdx, aIdx, aLenStr, aConv, aFold, aMinMax, aEqV, aNilCheck, fillV, aEqBool, aEqInt, aEqStr, Nat.reduceAdd, Nat.reduceLeDiff, Nat.reduceMul, Int.reduceLT, Int.reduceLE, Int.reduceToNat, Int.reduceGT, Int.reduceGE, Int.reduceNeg, Int.reduceAdd, Int.reduceSub, wrap64, chkAdd, effAdd, AOp.kind, chkAll, chkSee, Nat.reduceLT, zP.down, zQ.down]
        repeat (first | refine w_fin ?_ | refine w_seq ?_ | refine w_block ?_ | refine w_reg ?_ | refine w_op ?_ | refine w_dop ?_)
        refine (hp σ' (pc x (2048 * j)) (by omega)).mono ?_
        rintro ⟨_, σ2⟩ ⟨rfl, k2⟩
        dsimp only at k2
        have hfl := flen_pcs x j (by omega)
        have a5 := str_add (a := fput (shead i t x.length) ++ fputs ((pcs x).take j)) (b := fput (pc x (2048 * j))) (by rw [List.length_append, fput_len, fput_len, shead_len, fputs_len]; omega)
        have hsn : fput (shead i t x.length) ++ fputs ((pcs x).take j) ++ fput (pc x (2048 * j)) = fput (shead i t x.length) ++ fputs ((pcs x).take (j + 1)) := by
          rw [List.append_assoc, List.take_add_one, List.getElem?_eq_getElem hjl, fputs_append, pcs_at hjl]
          simp [fputs]
        rw [hsn] at a5
        have w1 : IntKind.i64.wrap (((2048 * j : Nat) : Int) + 2048) = ((2048 * (j + 1) : Nat) : Int) := by rw [wrap64 (by omega) (by omega)]; omega
        simp -implicitDefEqProofs (disch := first | exact nbf rfl | exact nbt rfl | (simp only [ne_eq, reduceCtorEq, not_false_eq_true]; done) | omega | (simp -implicitDefEqProofs only [St.n_push, St.n_put, St.n_bump, List.length_set] <;> omega) | fail) only [e1, e5, e7, a5, w1, aCallv, aPtrEq, XOp.kind, AOp.run, AO.eval, put, reduceCtorEq, aInt, Nat.reduceEqDiff, initEnv, V.bool, V.i64, resultsOf, AR.get, aExtract, aUn, Int.reduceEq, Int.reduceBEq, Int.reduceBNe, aBox, aLoad, aStore, aPart, aPlace, aArrAddr, aArrIdx, aIdx, aLenStr, aConv, aFold, aMinMax, aEqV, aNilCheck, fillV, aEqBool, aEqInt, aEqStr, Nat.reduceAdd, Nat.reduceLeDiff, Nat.reduceMul, Int.reduceLT, Int.reduceLE, Int.reduceToNat, Int.reduceGT, Int.reduceGE, Int.reduceNeg, Int.reduceAdd, Int.reduceSub, wrap64, chkAdd, effAdd, AOp.kind, chkAll, chkSee, Nat.reduceLT, zP.down, zQ.down]
        exact ⟨(pcs x).length - (j + 1), by omega, j + 1, rfl, hjl, rfl, rfl, kp.trans k2⟩
      · have d1 : decide (((2048 * j : Nat) : Int) < (x.length : Int)) = false := by simp only [decide_eq_false_iff_not]; omega
        have hjl : j = (pcs x).length := by omega
        subst hjl
        rw [List.take_length] at e5
        simp -implicitDefEqProofs (disch := first | exact nbf rfl | exact nbt rfl | (simp only [ne_eq, reduceCtorEq, not_false_eq_true]; done) | omega | (simp -implicitDefEqProofs only [St.n_push, St.n_put, St.n_bump, List.length_set] <;> omega) | fail) only [d1, e1, e5, e7, aCallv, aPtrEq, XOp.kind, AOp.run, AO.eval, put, reduceCtorEq, aInt, Nat.reduceEqDiff, initEnv, V.bool, V.i64, resultsOf, AR.get, aExtract, aUn, Int.reduceEq, Int.reduceBEq, Int.reduceBNe, aBox, aLoad, aStore, aPart, aPlace, aArrAddr, aArrIdx, aIdx, aLenStr, aConv, aFold, aMinMax, aEqV, aNilCheck, fillV, aEqBool, aEqInt, aEqStr, Nat.reduceAdd, Nat.reduceLeDiff, Nat.reduceMul, Int.reduceLT, Int.reduceLE, Int.reduceToNat, Int.reduceGT, Int.reduceGE, Int.reduceNeg, Int.reduceAdd, Int.reduceSub, wrap64, chkAdd, effAdd, AOp.kind, chkAll, chkSee, Nat.reduceLT, zP.down, zQ.down]
        exact ⟨_, _, rfl, by simp -implicitDefEqProofs (disch := first | exact nbf rfl | exact nbt rfl | (simp only [ne_eq, reduceCtorEq, not_false_eq_true]; done) | omega | (simp -implicitDefEqProofs only [St.n_push, St.n_put, St.n_bump, List.length_set] <;> omega) | fail) only [e5, sfile, aCallv, aPtrEq, XOp.kind, AOp.run, AO.eval, put, reduceCtorEq, aInt, Nat.reduceEqDiff, initEnv, V.bool, V.i64, resultsOf, AR.get, aExtract, aUn, Int.reduceEq, Int.reduceBEq, Int.reduceBNe, aBox, aLoad, aStore, aPart, aPlace, aArrAddr, aArrIdx, aIdx, aLenStr, aConv, aFold, aMinMax, aEqV, aNilCheck, fillV, aEqBool, aEqInt, aEqStr, Nat.reduceAdd, Nat.reduceLeDiff, Nat.reduceMul, Int.reduceLT, Int.reduceLE, Int.reduceToNat, Int.reduceGT, Int.reduceGE, Int.reduceNeg, Int.reduceAdd, Int.reduceSub, wrap64, chkAdd, effAdd, AOp.kind, chkAll, chkSee, Nat.reduceLT, zP.down, zQ.down], kp⟩
  · rintro _ ⟨ρ, σ', rfl, e5, kp⟩
    simp -implicitDefEqProofs (disch := first | exact nbf rfl | exact nbt rfl | (simp only [ne_eq, reduceCtorEq, not_false_eq_true]; done) | omega | (simp -implicitDefEqProofs only [St.n_push, St.n_put, St.n_bump, List.length_set] <;> omega) | fail) only [e5, aCallv, aPtrEq, XOp.kind, AOp.run, AO.eval, put, reduceCtorEq, aInt, Nat.reduceEqDiff, initEnv, V.bool, V.i64, resultsOf, AR.get, aExtract, aUn, Int.reduceEq, Int.reduceBEq, Int.reduceBNe, aBox, aLoad, aStore, aPart, aPlace, aArrAddr, aArrIdx, aIdx, aLenStr, aConv, aFold, aMinMax, aEqV, aNilCheck, fillV, aEqBool, aEqInt, aEqStr, Nat.reduceAdd, Nat.reduceLeDiff, Nat.reduceMul, Int.reduceLT, Int.reduceLE, Int.reduceToNat, Int.reduceGT, Int.reduceGE, Int.reduceNeg, Int.reduceAdd, Int.reduceSub, wrap64, chkAdd, effAdd, AOp.kind, chkAll, chkSee, Nat.reduceLT, zP.down, zQ.down]
    exact kp
end Go.Proofs.Ytjcobnjnjliehaa.sn
namespace Go.Proofs.Ytjcobnjnjliehaa.sn
open Go.Ab fr
set_option maxRecDepth 100000
set_option maxHeartbeats 8000000
set_option linter.unusedSimpArgs false
set_option linter.unusedVariables false

/-- What is read: the mark, the text, whether it is one. -/
structure Sr where
  i : Nat
  t : Nat
  x : List UInt8
  ok : Bool
def bad0 : Sr := ⟨0, 0, [], false⟩
def sread (s : List UInt8) : Sr :=
  match scan s with
  | [] => bad0
  | p :: l =>
    if flen (p :: l) ≠ s.length ∨ p.length ≠ 32 ∨ p.take 8 ≠ magic then bad0
    else if val ((p.drop 8).take 8) < 1 ∨ val ((p.drop 8).take 8) > 1048576 ∨ val ((p.drop 16).take 8) > 1099511627776 ∨ val ((p.drop 24).take 8) > 262144 then bad0
    else ⟨val ((p.drop 8).take 8), val ((p.drop 16).take 8), l.flatten, decide (sfile (val ((p.drop 8).take 8)) (val ((p.drop 16).take 8)) l.flatten = s) && decide (l.flatten.length = val ((p.drop 24).take 8))⟩
def srt (r : Sr) : V := .tup [.agg [.sc (.int .i64 r.i), .sc (.int .i64 r.t)], .str r.x, .sc (.bool r.ok)]
theorem flat_flen (l : List (List UInt8)) : l.flatten.length ≤ flen l := by
  induction l with
  | nil => simp
  | cons p l ih => simp only [List.flatten_cons, List.length_append, flen]; omega
theorem flat_take (l : List (List UInt8)) (j : Nat) : (l.take j).flatten.length ≤ l.flatten.length := by
  have h := congrArg List.length (congrArg List.flatten (List.take_append_drop j l))
  rw [List.flatten_append, List.length_append] at h
  omega
theorem sc1_flat (l : List (List UInt8)) : (l.map sc1).flatten = l.map V.str := by
  induction l with
  | nil => rfl
  | cons p l ih => rw [List.map_cons, List.flatten_cons, ih]; rfl

theorem read_ok (k : Nat) (ys : YlF) (σ : St) (s : List UInt8) (hs : s.length ≤ 1048576) (hk : 1100000 ≤ k) :
    W (callY Tab.tb (k + 7) ys 33 [.str s] σ) fun r => r.1 = srt (sread s) ∧ Kept noX σ r.2 := by
  rw [s_call (af := Tab.b33) rfl (Nat.le_of_ble_eq_true rfl)]
  have hsc := fun σ => scan_ok k ys σ s (by omega) (by omega)
  have hnew := fun σ s => rnew_ok (k + 5) ys σ s
  have hr := fun σ o r h hl ha => ru64_ok (k + 3) ys σ o r h hl ha (by omega)
  have hfile := fun σ i t x hi ht hx => file_ok (k + 1) ys σ i t x hi ht hx (by omega)
  generalize callY Tab.tb (k + 6) = cy at hsc hnew hr hfile ⊢
  simp -implicitDefEqProofs (disch := first | exact nbf rfl | exact nbt rfl | (simp only [ne_eq, reduceCtorEq, not_false_eq_true]; done) | omega | (simp -implicitDefEqProofs only [St.n_push, St.n_put, St.n_bump, List.length_set] <;> omega) | fail) only [Tab.b33, aCallv, aPtrEq, XOp.kind, AOp.run, AO.eval, put, reduceCtorEq, aInt, Nat.reduceEqDiff, initEnv, V.bool, V.i64, resultsOf, AR.get, aExtract, aUn, Int.reduceEq, Int.reduceBEq, Int.reduceBNe, aBox, aLoad, aStore, aPart, aPlace, aArrAddr, aArrIdx, aIdx, aLenStr, aConv, aFold, aMinMax, aEqV, aNilCheck, fillV, aEqBool, aEqInt, aEqStr, Nat.reduceAdd, Nat.reduceLeDiff, Nat.reduceMul, Int.reduceLT, Int.reduceLE, Int.reduceToNat, Int.reduceGT, Int.reduceGE, Int.reduceNeg, Int.reduceAdd, Int.reduceSub, wrap64, chkAdd, effAdd, AOp.kind, chkAll, chkSee, Nat.reduceLT, zP.down, zQ.down]
  repeat (first | refine w_fin ?_ | refine w_seq ?_ | refine w_block ?_ | refine w_reg ?_ | refine w_op ?_ | refine w_dop ?_)
  refine (hsc σ.bump).mono ?_
  rintro ⟨_, σ1⟩ ⟨v, rfl, how, k1⟩
  dsimp only at how k1
  have hfs := flen_scan _ s (Nat.le_refl _)
  have hrv := how.rv
  have kk : Kept noX σ σ1 := (Kept.refl _ _).bump.trans k1
  unfold sread
  clear how
  generalize scan s = L at *
  have hlen := hrv.len
  have hsize := hrv.size
  rw [List.length_map] at hlen
  cases L with
  | nil =>
    have z : ((([] : List (List UInt8)).length : Nat) : Int) = 0 := rfl
    rw [z] at hlen
    simp -implicitDefEqProofs (disch := first | exact nbf rfl | exact nbt rfl | (simp only [ne_eq, reduceCtorEq, not_false_eq_true]; done) | omega | (simp -implicitDefEqProofs only [St.n_push, St.n_put, St.n_bump, List.length_set] <;> omega) | fail) only [hlen, srt, bad0, aCallv, aPtrEq, XOp.kind, AOp.run, AO.eval, put, reduceCtorEq, aInt, Nat.reduceEqDiff, initEnv, V.bool, V.i64, resultsOf, AR.get, aExtract, aUn, Int.reduceEq, Int.reduceBEq, Int.reduceBNe, aBox, aLoad, aStore, aPart, aPlace, aArrAddr, aArrIdx, aIdx, aLenStr, aConv, aFold, aMinMax, aEqV, aNilCheck, fillV, aEqBool, aEqInt, aEqStr, Nat.reduceAdd, Nat.reduceLeDiff, Nat.reduceMul, Int.reduceLT, Int.reduceLE, Int.reduceToNat, Int.reduceGT, Int.reduceGE, Int.reduceNeg, Int.reduceAdd, Int.reduceSub, wrap64, chkAdd, effAdd, AOp.kind, chkAll, chkSee, Nat.reduceLT, zP.down, zQ.down]
    exact kk
  | cons p l =>
    dsimp only
    have z : (((l.length + 1 : Nat) : Int) == 0) = false := by simp only [beq_eq_false_iff_ne, ne_eq]; omega
    have a0 : aSlAddr v (.sc (.int .i64 0)) = some (.elt ((p :: l).map sc1).flatten 0) := by
      have := (hrv.at (i := 0) (by simp)).1
      simpa using this
    have b0 : aLoad σ1 (.elt ((p :: l).map sc1).flatten 0) none = some (.str p) := by simp [aLoad, aPart, sc1]
    generalize ((p :: l).map sc1).flatten = C at a0 b0
    by_cases c1 : flen (p :: l) = s.length
    · have d1 : ((flen (p :: l) : Int) != (s.length : Int)) = false := by simp [c1]
      by_cases c2 : p.length = 32
      · have d2 : ((p.length : Int) != 32) = false := by simp; omega
        have s8 : aSlice (.str p) none (some (.sc (.int .i64 8))) none = some (.str (p.take 8)) := str_lo (h := 8) (by omega)
        by_cases c3 : p.take 8 = magic
        · have d3 : (!decide (p.take 8 = [115, 110, 97, 112, 115, 104, 111, 116])) = false := by
            rw [Bool.not_eq_false']; exact decide_eq_true c3
          have h8 : aSlice (.str p) (some (.sc (.int .i64 8))) none none = some (.str (p.drop 8)) := str_hi (l := 8) (by omega)
          rw [if_neg (by simp only [c1, c2, c3, ne_eq, not_true_eq_false, or_self, not_false_eq_true])]
          simp -implicitDefEqProofs (disch := first | exact nbf rfl | exact nbt rfl | (simp only [ne_eq, reduceCtorEq, not_false_eq_true]; done) | omega | (simp -implicitDefEqProofs only [St.n_push, St.n_put, St.n_bump, List.length_set] <;> omega) | fail) only [hlen, hsize, z, d1, d2, d3, a0, b0, s8, h8, hnew, str_ne, aCallv, aPtrEq, XOp.kind, AOp.run, AO.eval, put, reduceCtorEq, aInt, Nat.reduceEqDiff, initEnv, V.bool, V.i64, resultsOf, AR.get, aExtract, aUn, Int.reduceEq, Int.reduceBEq, Int.reduceBNe, aBox, aStore, aPart, aPlace, aArrAddr, aArrIdx, aIdx, aLenStr, aConv, aFold, aMinMax, aEqV, aNilCheck, fillV, aEqBool, aEqInt, aEqStr, Nat.reduceAdd, Nat.reduceLeDiff, Nat.reduceMul, Int.reduceLT, Int.reduceLE, Int.reduceToNat, Int.reduceGT, Int.reduceGE, Int.reduceNeg, Int.reduceAdd, Int.reduceSub, wrap64, chkAdd, effAdd, AOp.kind, chkAll, chkSee, Nat.reduceLT, zP.down, zQ.down]
          repeat (first | refine w_fin ?_ | refine w_seq ?_ | refine w_block ?_ | refine w_reg ?_ | refine w_op ?_ | refine w_dop ?_)
          have r0 := RR.new σ1 (p.drop 8)
          generalize hσ2 : σ1.push (.cells [.str (p.drop 8), .sc (.int .i64 0), .sc (.int .i64 0), .sc (.int .i64 0)]) = σ2 at *
          have hd : (p.drop 8).length = 24 := by rw [List.length_drop]; omega
          have g1 : (Rd.mk (p.drop 8) 0 0 0).num 8 = val ((p.drop 8).take 8) := by unfold Rd.num; rw [if_neg (by simp only [hd]; omega)]; simp
          have g2 : (Rd.mk (p.drop 8) 0 0 0).go 8 = ⟨p.drop 8, 8, 0, 0⟩ := by unfold Rd.go; rw [if_neg (by simp), if_neg (by simp only [hd]; omega)]
          have g3 : (Rd.mk (p.drop 8) 8 0 0).num 8 = val ((p.drop 16).take 8) := by unfold Rd.num; rw [if_neg (by simp only [hd]; omega)]; simp
          have g4 : (Rd.mk (p.drop 8) 8 0 0).go 8 = ⟨p.drop 8, 16, 0, 0⟩ := by unfold Rd.go; rw [if_neg (by simp), if_neg (by simp only [hd]; omega)]
          have g5 : (Rd.mk (p.drop 8) 16 0 0).num 8 = val ((p.drop 24).take 8) := by unfold Rd.num; rw [if_neg (by simp only [hd]; omega)]; simp
          have g6 : (Rd.mk (p.drop 8) 16 0 0).go 8 = ⟨p.drop 8, 24, 0, 0⟩ := by unfold Rd.go; rw [if_neg (by simp), if_neg (by simp only [hd]; omega)]
          refine (hr σ2 σ1.n _ r0 (by simp only [hd]; decide) (Nat.zero_le _)).mono ?_
          rintro ⟨_, σ3⟩ ⟨rfl, r3, k3⟩
          dsimp only at r3 k3
          rw [g2] at r3
          rw [g1]
          simp -implicitDefEqProofs (disch := first | exact nbf rfl | exact nbt rfl | (simp only [ne_eq, reduceCtorEq, not_false_eq_true]; done) | omega | (simp -implicitDefEqProofs only [St.n_push, St.n_put, St.n_bump, List.length_set] <;> omega) | fail) only [aCallv, aPtrEq, XOp.kind, AOp.run, AO.eval, put, reduceCtorEq, aInt, Nat.reduceEqDiff, initEnv, V.bool, V.i64, resultsOf, AR.get, aExtract, aUn, Int.reduceEq, Int.reduceBEq, Int.reduceBNe, aBox, aLoad, aStore, aPart, aPlace, aArrAddr, aArrIdx, aIdx, aLenStr, aConv, aFold, aMinMax, aEqV, aNilCheck, fillV, aEqBool, aEqInt, aEqStr, Nat.reduceAdd, Nat.reduceLeDiff, Nat.reduceMul, Int.reduceLT, Int.reduceLE, Int.reduceToNat, Int.reduceGT, Int.reduceGE, Int.reduceNeg, Int.reduceAdd, Int.reduceSub, wrap64, chkAdd, effAdd, AOp.kind, chkAll, chkSee, Nat.reduceLT, zP.down, zQ.down]
          repeat (first | refine w_fin ?_ | refine w_seq ?_ | refine w_block ?_ | refine w_reg ?_ | refine w_op ?_ | refine w_dop ?_)
          refine (hr σ3 σ1.n _ r3 (by simp only [hd]; decide) (by simp only [hd]; decide)).mono ?_
          rintro ⟨_, σ4⟩ ⟨rfl, r4, k4⟩
          dsimp only at r4 k4
          rw [g4] at r4
          rw [g3]
          simp -implicitDefEqProofs (disch := first | exact nbf rfl | exact nbt rfl | (simp only [ne_eq, reduceCtorEq, not_false_eq_true]; done) | omega | (simp -implicitDefEqProofs only [St.n_push, St.n_put, St.n_bump, List.length_set] <;> omega) | fail) only [aCallv, aPtrEq, XOp.kind, AOp.run, AO.eval, put, reduceCtorEq, aInt, Nat.reduceEqDiff, initEnv, V.bool, V.i64, resultsOf, AR.get, aExtract, aUn, Int.reduceEq, Int.reduceBEq, Int.reduceBNe, aBox, aLoad, aStore, aPart, aPlace, aArrAddr, aArrIdx, aIdx, aLenStr, aConv, aFold, aMinMax, aEqV, aNilCheck, fillV, aEqBool, aEqInt, aEqStr, Nat.reduceAdd, Nat.reduceLeDiff, Nat.reduceMul, Int.reduceLT, Int.reduceLE, Int.reduceToNat, Int.reduceGT, Int.reduceGE, Int.reduceNeg, Int.reduceAdd, Int.reduceSub, wrap64, chkAdd, effAdd, AOp.kind, chkAll, chkSee, Nat.reduceLT, zP.down, zQ.down]
          repeat (first | refine w_fin ?_ | refine w_seq ?_ | refine w_block ?_ | refine w_reg ?_ | refine w_op ?_ | refine w_dop ?_)
          refine (hr σ4 σ1.n _ r4 (by simp only [hd]; decide) (by simp only [hd]; decide)).mono ?_
          rintro ⟨_, σ5⟩ ⟨rfl, r5, k5⟩
          dsimp only at r5 k5
          rw [g5]
          have kk5 : Kept noX σ σ5 := by
            have := (k3.trans k4).trans k5
            rw [← hσ2] at this
            exact kk.trans (Kept.new this)
          generalize val ((p.drop 8).take 8) = i at *
          generalize val ((p.drop 16).take 8) = t at *
          generalize val ((p.drop 24).take 8) = n at *
          by_cases e1 : i < 1
          · have f1 : decide ((i : Int) < 1) = true := by simp; omega
            rw [if_pos (.inl e1)]
            simp -implicitDefEqProofs (disch := first | exact nbf rfl | exact nbt rfl | (simp only [ne_eq, reduceCtorEq, not_false_eq_true]; done) | omega | (simp -implicitDefEqProofs only [St.n_push, St.n_put, St.n_bump, List.length_set] <;> omega) | fail) only [f1, srt, bad0, aCallv, aPtrEq, XOp.kind, AOp.run, AO.eval, put, reduceCtorEq, aInt, Nat.reduceEqDiff, initEnv, V.bool, V.i64, resultsOf, AR.get, aExtract, aUn, Int.reduceEq, Int.reduceBEq, Int.reduceBNe, aBox, aLoad, aStore, aPart, aPlace, aArrAddr, aArrIdx, aIdx, aLenStr, aConv, aFold, aMinMax, aEqV, aNilCheck, fillV, aEqBool, aEqInt, aEqStr, Nat.reduceAdd, Nat.reduceLeDiff, Nat.reduceMul, Int.reduceLT, Int.reduceLE, Int.reduceToNat, Int.reduceGT, Int.reduceGE, Int.reduceNeg, Int.reduceAdd, Int.reduceSub, wrap64, chkAdd, effAdd, AOp.kind, chkAll, chkSee, Nat.reduceLT, zP.down, zQ.down]
            exact kk5
          have f1 : decide ((i : Int) < 1) = false := by simp; omega
          by_cases e2 : i > 1048576
          · have f2 : decide ((i : Int) > 1048576) = true := by simp; omega
            rw [if_pos (.inr (.inl e2))]
            simp -implicitDefEqProofs (disch := first | exact nbf rfl | exact nbt rfl | (simp only [ne_eq, reduceCtorEq, not_false_eq_true]; done) | omega | (simp -implicitDefEqProofs only [St.n_push, St.n_put, St.n_bump, List.length_set] <;> omega) | fail) only [f1, f2, srt, bad0, aCallv, aPtrEq, XOp.kind, AOp.run, AO.eval, put, reduceCtorEq, aInt, Nat.reduceEqDiff, initEnv, V.bool, V.i64, resultsOf, AR.get, aExtract, aUn, Int.reduceEq, Int.reduceBEq, Int.reduceBNe, aBox, aLoad, aStore, aPart, aPlace, aArrAddr, aArrIdx, aIdx, aLenStr, aConv, aFold, aMinMax, aEqV, aNilCheck, fillV, aEqBool, aEqInt, aEqStr, Nat.reduceAdd, Nat.reduceLeDiff, Nat.reduceMul, Int.reduceLT, Int.reduceLE, Int.reduceToNat, Int.reduceGT, Int.reduceGE, Int.reduceNeg, Int.reduceAdd, Int.reduceSub, wrap64, chkAdd, effAdd, AOp.kind, chkAll, chkSee, Nat.reduceLT, zP.down, zQ.down]
            exact kk5
          have f2 : decide ((i : Int) > 1048576) = false := by simp; omega
          by_cases e3 : t > 1099511627776
          · have f3 : decide ((t : Int) > 1099511627776) = true := by simp; omega
            rw [if_pos (.inr (.inr (.inl e3)))]
            simp -implicitDefEqProofs (disch := first | exact nbf rfl | exact nbt rfl | (simp only [ne_eq, reduceCtorEq, not_false_eq_true]; done) | omega | (simp -implicitDefEqProofs only [St.n_push, St.n_put, St.n_bump, List.length_set] <;> omega) | fail) only [f1, f2, f3, srt, bad0, aCallv, aPtrEq, XOp.kind, AOp.run, AO.eval, put, reduceCtorEq, aInt, Nat.reduceEqDiff, initEnv, V.bool, V.i64, resultsOf, AR.get, aExtract, aUn, Int.reduceEq, Int.reduceBEq, Int.reduceBNe, aBox, aLoad, aStore, aPart, aPlace, aArrAddr, aArrIdx, aIdx, aLenStr, aConv, aFold, aMinMax, aEqV, aNilCheck, fillV, aEqBool, aEqInt, aEqStr, Nat.reduceAdd, Nat.reduceLeDiff, Nat.reduceMul, Int.reduceLT, Int.reduceLE, Int.reduceToNat, Int.reduceGT, Int.reduceGE, Int.reduceNeg, Int.reduceAdd, Int.reduceSub, wrap64, chkAdd, effAdd, AOp.kind, chkAll, chkSee, Nat.reduceLT, zP.down, zQ.down]
            exact kk5
          have f3 : decide ((t : Int) > 1099511627776) = false := by simp; omega
          by_cases e4 : n > 262144
          · have f4 : decide ((n : Int) > 262144) = true := by simp; omega
            rw [if_pos (.inr (.inr (.inr e4)))]
            simp -implicitDefEqProofs (disch := first | exact nbf rfl | exact nbt rfl | (simp only [ne_eq, reduceCtorEq, not_false_eq_true]; done) | omega | (simp -implicitDefEqProofs only [St.n_push, St.n_put, St.n_bump, List.length_set] <;> omega) | fail) only [f1, f2, f3, f4, srt, bad0, aCallv, aPtrEq, XOp.kind, AOp.run, AO.eval, put, reduceCtorEq, aInt, Nat.reduceEqDiff, initEnv, V.bool, V.i64, resultsOf, AR.get, aExtract, aUn, Int.reduceEq, Int.reduceBEq, Int.reduceBNe, aBox, aLoad, aStore, aPart, aPlace, aArrAddr, aArrIdx, aIdx, aLenStr, aConv, aFold, aMinMax, aEqV, aNilCheck, fillV, aEqBool, aEqInt, aEqStr, Nat.reduceAdd, Nat.reduceLeDiff, Nat.reduceMul, Int.reduceLT, Int.reduceLE, Int.reduceToNat, Int.reduceGT, Int.reduceGE, Int.reduceNeg, Int.reduceAdd, Int.reduceSub, wrap64, chkAdd, effAdd, AOp.kind, chkAll, chkSee, Nat.reduceLT, zP.down, zQ.down]
            exact kk5
          have f4 : decide ((n : Int) > 262144) = false := by simp; omega
          rw [if_neg (by omega)]
          have w1 : IntKind.i64.wrap (i : Int) = i := wrap64 (by omega) (by omega)
          have w2 : IntKind.i64.wrap (t : Int) = t := wrap64 (by omega) (by omega)
          obtain ⟨y, hy, hyv⟩ := hrv.drop (i := 1) (by simp)
          have hyl := hyv.len
          have hys := hyv.size
          simp only [List.map_cons, List.drop_succ_cons, List.drop_zero, List.length_map] at hyl hyv
          have hy1 : ∀ σ, aSliceR σ v (some (.sc (.int .i64 1))) none none = some y := hy
          simp -implicitDefEqProofs (disch := first | exact nbf rfl | exact nbt rfl | (simp only [ne_eq, reduceCtorEq, not_false_eq_true]; done) | omega | (simp -implicitDefEqProofs only [St.n_push, St.n_put, St.n_bump, List.length_set] <;> omega) | fail) only [f1, f2, f3, f4, w1, w2, hsize, hy1, hyl, aCallv, aPtrEq, XOp.kind, AOp.run, AO.eval, put, reduceCtorEq, aInt, Nat.reduceEqDiff, initEnv, V.bool, V.i64, resultsOf, AR.get, aExtract, aUn, Int.reduceEq, Int.reduceBEq, Int.reduceBNe, aBox, aLoad, aStore, aPart, aPlace, aArrAddr, aArrIdx, aIdx, aLenStr, aConv, aFold, aMinMax, aEqV, aNilCheck, fillV, aEqBool, aEqInt, aEqStr, Nat.reduceAdd, Nat.reduceLeDiff, Nat.reduceMul, Int.reduceLT, Int.reduceLE, Int.reduceToNat, Int.reduceGT, Int.reduceGE, Int.reduceNeg, Int.reduceAdd, Int.reduceSub, wrap64, chkAdd, effAdd, AOp.kind, chkAll, chkSee, Nat.reduceLT, zP.down, zQ.down]
          repeat (first | refine w_fin ?_ | refine w_seq ?_ | refine w_block ?_ | refine w_reg ?_ | refine w_op ?_ | refine w_dop ?_)
          have hfl : l.flatten.length + 12 ≤ s.length := by
            have := flat_flen l
            simp only [flen] at c1
            omega
          refine W.mono (Q := fun q => ∃ (ρ : Env), q = ((.exit 0 : Ex), ρ, σ5.bump) ∧ ρ 0 = .str s ∧ ρ 10 = .sc (.int .u64 n) ∧ ρ 11 = .agg [.sc (.int .i64 i), .sc (.int .i64 t)] ∧ ρ 12 = .str l.flatten ∧ ρ 2 = .agg [.sc (.int .i64 0), .sc (.int .i64 0)]) ?_ ?_
          · have hll : l.length ≤ flen l := len_flen l
            have hll2 : flen l ≤ s.length := by simp only [flen] at c1; omega
            refine w_loop (fun m ρ σ' => ∃ j, m = l.length - j ∧ j ≤ l.length ∧ σ' = σ5.bump ∧ ρ 0 = .str s ∧ ρ 10 = .sc (.int .u64 n) ∧ ρ 11 = .agg [.sc (.int .i64 i), .sc (.int .i64 t)] ∧ ρ 12 = .str (l.take j).flatten ∧ ρ 2 = .agg [.sc (.int .i64 0), .sc (.int .i64 0)] ∧ ρ 76 = y ∧ ρ 77 = .sc (.int .i64 l.length) ∧ ρ 78 = .sc (.int .i64 j)) l.length (by simp only [flen] at c1; omega) ?_ ?_
            · refine ⟨0, rfl, Nat.zero_le _, rfl, ?_, ?_, ?_, ?_, ?_, ?_, ?_, ?_⟩
              all_goals first | rfl | (simp -implicitDefEqProofs (disch := first | exact nbf rfl | exact nbt rfl | (simp only [ne_eq, reduceCtorEq, not_false_eq_true]; done) | omega | (simp -implicitDefEqProofs only [St.n_push, St.n_put, St.n_bump, List.length_set] <;> omega) | fail) only [aCallv, aPtrEq, XOp.kind, AOp.run, AO.eval, put, reduceCtorEq, aInt, Nat.reduceEqDiff, initEnv, V.bool, V.i64, resultsOf, AR.get, aExtract, aUn, Int.reduceEq, Int.reduceBEq, Int.reduceBNe, aBox, aLoad, aStore, aPart, aPlace, aArrAddr, aArrIdx, aIdx, aLenStr, aConv, aFold, aMinMax, aEqV, aNilCheck, fillV, aEqBool, aEqInt, aEqStr, Nat.reduceAdd, Nat.reduceLeDiff, Nat.reduceMul, Int.reduceLT, Int.reduceLE, Int.reduceToNat, Int.reduceGT, Int.reduceGE, Int.reduceNeg, Int.reduceAdd, Int.reduceSub, wrap64, chkAdd, effAdd, AOp.kind, chkAll, chkSee, Nat.reduceLT, zP.down, zQ.down]; done) | (simp -implicitDefEqProofs (disch := first | exact nbf rfl | exact nbt rfl | (simp only [ne_eq, reduceCtorEq, not_false_eq_true]; done) | omega | (simp -implicitDefEqProofs only [St.n_push, St.n_put, St.n_bump, List.length_set] <;> omega) | fail) only [aCallv, aPtrEq, XOp.kind, AOp.run, AO.eval, put, reduceCtorEq, aInt, Nat.reduceEqDiff, initEnv, V.bool, V.i64, resultsOf, AR.get, aExtract, aUn, Int.reduceEq, Int.reduceBEq, Int.reduceBNe, aBox, aLoad, aStore, aPart, aPlace, aArrAddr, aArrIdx, aIdx, aLenStr, aConv, aFold, aMinMax, aEqV, aNilCheck, fillV, aEqBool, aEqInt, aEqStr, Nat.reduceAdd, Nat.reduceLeDiff, Nat.reduceMul, Int.reduceLT, Int.reduceLE, Int.reduceToNat, Int.reduceGT, Int.reduceGE, Int.reduceNeg, Int.reduceAdd, Int.reduceSub, wrap64, chkAdd, effAdd, AOp.kind, chkAll, chkSee, Nat.reduceLT, zP.down, zQ.down]; rfl)
            · rintro m ρ σ' ⟨j, hm, hj, rfl, e0, e10, e11, e12, e2', e76, e77, e78⟩
              by_cases hlt : j < l.length
              · have q1 : decide ((j : Int) < (l.length : Int)) = true := by simpa using hlt
                obtain ⟨a1, _, _⟩ := hyv.at (i := j) (by simpa using hlt)
                have a4 := hyv.cellAt (i := j) (j := 0) (by simpa using hlt) (by omega)
                simp only [List.getElem_map, Nat.add_zero, sc1, List.getElem?_cons_zero, Nat.mul_one] at a4
                rw [Nat.mul_one] at a1
                have a5 : aLoad σ5.bump (.elt (l.map sc1).flatten j) none = some (.str l[j]) := by
                  simp only [aLoad, aPart]; exact a4
                have hft := flat_take l (j + 1)
                have htk : (l.take j).flatten ++ l[j] = (l.take (j + 1)).flatten := by
                  rw [List.take_add_one, List.getElem?_eq_getElem hlt, List.flatten_append]; simp
                have a6 := str_add (a := (l.take j).flatten) (b := l[j]) (by rw [← htk, List.length_append] at hft; omega)
                rw [htk] at a6
                have w3 : IntKind.i64.wrap ((j : Int) + 1) = ((j + 1 : Nat) : Int) := wrap64 (by omega) (by omega)
                simp -implicitDefEqProofs (disch := first | exact nbf rfl | exact nbt rfl | (simp only [ne_eq, reduceCtorEq, not_false_eq_true]; done) | omega | (simp -implicitDefEqProofs only [St.n_push, St.n_put, St.n_bump, List.length_set] <;> omega) | fail) only [q1, e0, e10, e11, e12, e2', e76, e77, e78, a1, a5, a6, hys, w3, aCallv, aPtrEq, XOp.kind, AOp.run, AO.eval, put, reduceCtorEq, aInt, Nat.reduceEqDiff, initEnv, V.bool, V.i64, resultsOf, AR.get, aExtract, aUn, Int.reduceEq, Int.reduceBEq, Int.reduceBNe, aBox, aStore, aPart, aPlace, aArrAddr, aArrIdx, aIdx, aLenStr, aConv, aFold, aMinMax, aEqV, aNilCheck, fillV, aEqBool, aEqInt, aEqStr, Nat.reduceAdd, Nat.reduceLeDiff, Nat.reduceMul, Int.reduceLT, Int.reduceLE, Int.reduceToNat, Int.reduceGT, Int.reduceGE, Int.reduceNeg, Int.reduceAdd, Int.reduceSub, wrap64, chkAdd, effAdd, AOp.kind, chkAll, chkSee, Nat.reduceLT, zP.down, zQ.down]
                exact ⟨l.length - (j + 1), by omega, j + 1, rfl, hlt, rfl, rfl⟩
              · have q1 : decide ((j : Int) < (l.length : Int)) = false := by simpa using hlt
                have : j = l.length := by omega
                subst this
                rw [List.take_length] at e12
                simp -implicitDefEqProofs (disch := first | exact nbf rfl | exact nbt rfl | (simp only [ne_eq, reduceCtorEq, not_false_eq_true]; done) | omega | (simp -implicitDefEqProofs only [St.n_push, St.n_put, St.n_bump, List.length_set] <;> omega) | fail) only [q1, e77, e78, aCallv, aPtrEq, XOp.kind, AOp.run, AO.eval, put, reduceCtorEq, aInt, Nat.reduceEqDiff, initEnv, V.bool, V.i64, resultsOf, AR.get, aExtract, aUn, Int.reduceEq, Int.reduceBEq, Int.reduceBNe, aBox, aLoad, aStore, aPart, aPlace, aArrAddr, aArrIdx, aIdx, aLenStr, aConv, aFold, aMinMax, aEqV, aNilCheck, fillV, aEqBool, aEqInt, aEqStr, Nat.reduceAdd, Nat.reduceLeDiff, Nat.reduceMul, Int.reduceLT, Int.reduceLE, Int.reduceToNat, Int.reduceGT, Int.reduceGE, Int.reduceNeg, Int.reduceAdd, Int.reduceSub, wrap64, chkAdd, effAdd, AOp.kind, chkAll, chkSee, Nat.reduceLT, zP.down, zQ.down]
                refine ⟨_, rfl, ?_, ?_, ?_, ?_, ?_⟩
                all_goals (simp -implicitDefEqProofs (disch := first | exact nbf rfl | exact nbt rfl | (simp only [ne_eq, reduceCtorEq, not_false_eq_true]; done) | omega | (simp -implicitDefEqProofs only [St.n_push, St.n_put, St.n_bump, List.length_set] <;> omega) | fail) only [e0, e10, e11, e12, e2', aCallv, aPtrEq, XOp.kind, AOp.run, AO.eval, put, reduceCtorEq, aInt, Nat.reduceEqDiff, initEnv, V.bool, V.i64, resultsOf, AR.get, aExtract, aUn, Int.reduceEq, Int.reduceBEq, Int.reduceBNe, aBox, aLoad, aStore, aPart, aPlace, aArrAddr, aArrIdx, aIdx, aLenStr, aConv, aFold, aMinMax, aEqV, aNilCheck, fillV, aEqBool, aEqInt, aEqStr, Nat.reduceAdd, Nat.reduceLeDiff, Nat.reduceMul, Int.reduceLT, Int.reduceLE, Int.reduceToNat, Int.reduceGT, Int.reduceGE, Int.reduceNeg, Int.reduceAdd, Int.reduceSub, wrap64, chkAdd, effAdd, AOp.kind, chkAll, chkSee, Nat.reduceLT, zP.down, zQ.down]; done)
          · rintro _ ⟨ρ, rfl, e0, e10, e11, e12, e2'⟩
            simp -implicitDefEqProofs (disch := first | exact nbf rfl | exact nbt rfl | (simp only [ne_eq, reduceCtorEq, not_false_eq_true]; done) | omega | (simp -implicitDefEqProofs only [St.n_push, St.n_put, St.n_bump, List.length_set] <;> omega) | fail) only [e0, e10, e11, e12, aCallv, aPtrEq, XOp.kind, AOp.run, AO.eval, put, reduceCtorEq, aInt, Nat.reduceEqDiff, initEnv, V.bool, V.i64, resultsOf, AR.get, aExtract, aUn, Int.reduceEq, Int.reduceBEq, Int.reduceBNe, aBox, aLoad, aStore, aPart, aPlace, aArrAddr, aArrIdx, aIdx, aLenStr, aConv, aFold, aMinMax, aEqV, aNilCheck, fillV, aEqBool, aEqInt, aEqStr, Nat.reduceAdd, Nat.reduceLeDiff, Nat.reduceMul, Int.reduceLT, Int.reduceLE, Int.reduceToNat, Int.reduceGT, Int.reduceGE, Int.reduceNeg, Int.reduceAdd, Int.reduceSub, wrap64, chkAdd, effAdd, AOp.kind, chkAll, chkSee, Nat.reduceLT, zP.down, zQ.down]
            repeat (first | refine w_fin ?_ | refine w_seq ?_ | refine w_block ?_ | refine w_reg ?_ | refine w_op ?_ | refine w_dop ?_)
            refine (hfile σ5.bump i t l.flatten (by omega) (by omega) (by omega)).mono ?_
            rintro ⟨_, σ6⟩ ⟨rfl, k6⟩
            dsimp only at k6
            have w4 : IntKind.u64.wrap (l.flatten.length : Int) = (l.flatten.length : Nat) := wrap_u64 (by omega)
            have kk6 := (kk5.bump).trans k6
            by_cases u1 : sfile i t l.flatten = s
            · have v1 := decide_eq_true u1
              have v2 : ((l.flatten.length : Int) == (n : Int)) = decide (l.flatten.length = n) := by
                rw [Bool.eq_iff_iff]; simp only [beq_iff_eq, decide_eq_true_eq]; omega
              simp -implicitDefEqProofs (disch := first | exact nbf rfl | exact nbt rfl | (simp only [ne_eq, reduceCtorEq, not_false_eq_true]; done) | omega | (simp -implicitDefEqProofs only [St.n_push, St.n_put, St.n_bump, List.length_set] <;> omega) | fail) only [e0, e10, e11, e12, e2', str_eq, v1, v2, w4, srt, aCallv, aPtrEq, XOp.kind, AOp.run, AO.eval, put, reduceCtorEq, aInt, Nat.reduceEqDiff, initEnv, V.bool, V.i64, resultsOf, AR.get, aExtract, aUn, Int.reduceEq, Int.reduceBEq, Int.reduceBNe, aBox, aLoad, aStore, aPart, aPlace, aArrAddr, aArrIdx, aIdx, aLenStr, aConv, aFold, aMinMax, aEqV, aNilCheck, fillV, aEqBool, aEqInt, aEqStr, Nat.reduceAdd, Nat.reduceLeDiff, Nat.reduceMul, Int.reduceLT, Int.reduceLE, Int.reduceToNat, Int.reduceGT, Int.reduceGE, Int.reduceNeg, Int.reduceAdd, Int.reduceSub, wrap64, chkAdd, effAdd, AOp.kind, chkAll, chkSee, Nat.reduceLT, zP.down, zQ.down]
              exact kk6
            · have v1 := decide_eq_false u1
              simp -implicitDefEqProofs (disch := first | exact nbf rfl | exact nbt rfl | (simp only [ne_eq, reduceCtorEq, not_false_eq_true]; done) | omega | (simp -implicitDefEqProofs only [St.n_push, St.n_put, St.n_bump, List.length_set] <;> omega) | fail) only [e0, e10, e11, e12, e2', str_eq, v1, w4, srt, Bool.false_and, aCallv, aPtrEq, XOp.kind, AOp.run, AO.eval, put, reduceCtorEq, aInt, Nat.reduceEqDiff, initEnv, V.bool, V.i64, resultsOf, AR.get, aExtract, aUn, Int.reduceEq, Int.reduceBEq, Int.reduceBNe, aBox, aLoad, aStore, aPart, aPlace, aArrAddr, aArrIdx, aIdx, aLenStr, aConv, aFold, aMinMax, aEqV, aNilCheck, fillV, aEqBool, aEqInt, aEqStr, Nat.reduceAdd, Nat.reduceLeDiff, Nat.reduceMul, Int.reduceLT, Int.reduceLE, Int.reduceToNat, Int.reduceGT, Int.reduceGE, Int.reduceNeg, Int.reduceAdd, Int.reduceSub, wrap64, chkAdd, effAdd, AOp.kind, chkAll, chkSee, Nat.reduceLT, zP.down, zQ.down]
              exact kk6
        · have d3 : (!decide (p.take 8 = [115, 110, 97, 112, 115, 104, 111, 116])) = true := by
            rw [Bool.not_eq_true']; exact decide_eq_false c3
          rw [if_pos (.inr (.inr c3))]
          simp -implicitDefEqProofs (disch := first | exact nbf rfl | exact nbt rfl | (simp only [ne_eq, reduceCtorEq, not_false_eq_true]; done) | omega | (simp -implicitDefEqProofs only [St.n_push, St.n_put, St.n_bump, List.length_set] <;> omega) | fail) only [hlen, hsize, z, d1, d2, d3, a0, b0, s8, str_ne, srt, bad0, aCallv, aPtrEq, XOp.kind, AOp.run, AO.eval, put, reduceCtorEq, aInt, Nat.reduceEqDiff, initEnv, V.bool, V.i64, resultsOf, AR.get, aExtract, aUn, Int.reduceEq, Int.reduceBEq, Int.reduceBNe, aBox, aStore, aPart, aPlace, aArrAddr, aArrIdx, aIdx, aLenStr, aConv, aFold, aMinMax, aEqV, aNilCheck, fillV, aEqBool, aEqInt, aEqStr, Nat.reduceAdd, Nat.reduceLeDiff, Nat.reduceMul, Int.reduceLT, Int.reduceLE, Int.reduceToNat, Int.reduceGT, Int.reduceGE, Int.reduceNeg, Int.reduceAdd, Int.reduceSub, wrap64, chkAdd, effAdd, AOp.kind, chkAll, chkSee, Nat.reduceLT, zP.down, zQ.down]
          exact kk
      · have d2 : ((p.length : Int) != 32) = true := by simp; omega
        rw [if_pos (.inr (.inl c2))]
        simp -implicitDefEqProofs (disch := first | exact nbf rfl | exact nbt rfl | (simp only [ne_eq, reduceCtorEq, not_false_eq_true]; done) | omega | (simp -implicitDefEqProofs only [St.n_push, St.n_put, St.n_bump, List.length_set] <;> omega) | fail) only [hlen, hsize, z, d1, d2, a0, b0, srt, bad0, aCallv, aPtrEq, XOp.kind, AOp.run, AO.eval, put, reduceCtorEq, aInt, Nat.reduceEqDiff, initEnv, V.bool, V.i64, resultsOf, AR.get, aExtract, aUn, Int.reduceEq, Int.reduceBEq, Int.reduceBNe, aBox, aStore, aPart, aPlace, aArrAddr, aArrIdx, aIdx, aLenStr, aConv, aFold, aMinMax, aEqV, aNilCheck, fillV, aEqBool, aEqInt, aEqStr, Nat.reduceAdd, Nat.reduceLeDiff, Nat.reduceMul, Int.reduceLT, Int.reduceLE, Int.reduceToNat, Int.reduceGT, Int.reduceGE, Int.reduceNeg, Int.reduceAdd, Int.reduceSub, wrap64, chkAdd, effAdd, AOp.kind, chkAll, chkSee, Nat.reduceLT, zP.down, zQ.down]
        exact kk
    · have d1 : ((flen (p :: l) : Int) != (s.length : Int)) = true := by simp; omega
      rw [if_pos (.inl c1)]
      simp -implicitDefEqProofs (disch := first | exact nbf rfl | exact nbt rfl | (simp only [ne_eq, reduceCtorEq, not_false_eq_true]; done) | omega | (simp -implicitDefEqProofs only [St.n_push, St.n_put, St.n_bump, List.length_set] <;> omega) | fail) only [hlen, hsize, z, d1, srt, bad0, aCallv, aPtrEq, XOp.kind, AOp.run, AO.eval, put, reduceCtorEq, aInt, Nat.reduceEqDiff, initEnv, V.bool, V.i64, resultsOf, AR.get, aExtract, aUn, Int.reduceEq, Int.reduceBEq, Int.reduceBNe, aBox, aLoad, aStore, aPart, aPlace, aArrAddr, aArrIdx, aIdx, aLenStr, aConv, aFold, aMinMax, aEqV, aNilCheck, fillV, aEqBool, aEqInt, aEqStr, Nat.reduceAdd, Nat.reduceLeDiff, Nat.reduceMul, Int.reduceLT, Int.reduceLE, Int.reduceToNat, Int.reduceGT, Int.reduceGE, Int.reduceNeg, Int.reduceAdd, Int.reduceSub, wrap64, chkAdd, effAdd, AOp.kind, chkAll, chkSee, Nat.reduceLT, zP.down, zQ.down]
      exact kk
end Go.Proofs.Ytjcobnjnjliehaa.sn
namespace Go.Proofs.Ytjcobnjnjliehaa.sn
open Go.Ab fr dk
set_option maxRecDepth 100000
set_option maxHeartbeats 8000000
set_option linter.unusedSimpArgs false
set_option linter.unusedVariables false

def mst (M : DM) (f : Nat) (a : Sr) : Sr :=
  if (M.read f).2 ≠ 0 then a else if (sread (M.read f).1).ok = true ∧ (sread (M.read f).1).i > a.i then { sread (M.read f).1 with ok := true } else a
def mac (M : DM) : Nat → Sr
  | 0 => bad0
  | n + 1 => mst M (n + 2) (mac M n)
/-- What Load tells. -/
def mld (M : DM) : Sr × Int := if M.power = 0 then (bad0, 40) else if (mac M 2).ok = true then (mac M 2, 0) else (bad0, 4)
def ldt (r : Sr × Int) : V := .tup [.agg [.sc (.int .i64 r.1.i), .sc (.int .i64 r.1.t)], .str r.1.x, .sc (.int .i64 r.2)]
theorem read_len {M : DM} {B : Nat} (hm : M.Ok B) (f : Int) : (M.read f).1.length ≤ 1048576 := by
  unfold DM.read
  repeat' split
  all_goals first | (simp; done) | skip
  rename_i h _
  have h0 : 0 ≤ f ∧ f < 32 := by omega
  rw [see_in h0.1 h0.2]
  exact (hm.f f.toNat (by omega)).1.seen

theorem load_ok (k : Nat) (ys : YlF) (σ : St) (d : Nat) (M : DM) (h : DR σ d M) {B : Nat} (hm : M.Ok B) (hk : 1100000 ≤ k) :
    W (callY Tab.tb (k + 8) ys 17 [.ptr d 0] σ) fun r => r.1 = ldt (mld M) ∧ Kept noX σ r.2 := by
  rw [s_call (af := Tab.b17) rfl (Nat.le_of_ble_eq_true rfl)]
  have hon := fun σ h => on_ok (k + 6) ys σ d M h
  have hrd := fun σ f h => dk.read_ok (k + 5) ys σ d M f h
  have hsr := fun σ s hs => sn.read_ok k ys σ s hs hk
  generalize callY Tab.tb (k + 7) = cy at hon hrd hsr ⊢
  have hb := h.kept ((Kept.refl noX σ).bump) (fun h => h)
  unfold mld
  by_cases hp : M.power = 0
  · have d1 : (M.power != 0) = false := by simp [hp]
    have ho := hon _ hb
    rw [if_pos hp]
    simp -implicitDefEqProofs (disch := first | exact nbf rfl | exact nbt rfl | (simp only [ne_eq, reduceCtorEq, not_false_eq_true]; done) | omega | (simp -implicitDefEqProofs only [St.n_push, St.n_put, St.n_bump, List.length_set] <;> omega) | fail) only [Tab.b17, dk.pnil, ho, d1, ldt, bad0, aCallv, aPtrEq, XOp.kind, AOp.run, AO.eval, put, reduceCtorEq, aInt, Nat.reduceEqDiff, initEnv, V.bool, V.i64, resultsOf, AR.get, aExtract, aUn, Int.reduceEq, Int.reduceBEq, Int.reduceBNe, aBox, aLoad, aStore, aPart, aPlace, aArrAddr, aArrIdx, aIdx, aLenStr, aConv, aFold, aMinMax, aNilCheck, fillV, aEqBool, aEqInt, aEqStr, Nat.reduceAdd, Nat.reduceLeDiff, Nat.reduceMul, Int.reduceLT, Int.reduceLE, Int.reduceToNat, Int.reduceGT, Int.reduceGE, Int.reduceNeg, Int.reduceAdd, Int.reduceSub, wrap64, chkAdd, effAdd, AOp.kind, chkAll, chkSee, Nat.reduceLT, zP.down, zQ.down]
    exact (Kept.refl _ _).bump
  have d1 : (M.power != 0) = true := by simp [hp]
  rw [if_neg hp]
  have ho := hon _ hb
  simp -implicitDefEqProofs (disch := first | exact nbf rfl | exact nbt rfl | (simp only [ne_eq, reduceCtorEq, not_false_eq_true]; done) | omega | (simp -implicitDefEqProofs only [St.n_push, St.n_put, St.n_bump, List.length_set] <;> omega) | fail) only [Tab.b17, dk.pnil, ho, d1, aCallv, aPtrEq, XOp.kind, AOp.run, AO.eval, put, reduceCtorEq, aInt, Nat.reduceEqDiff, initEnv, V.bool, V.i64, resultsOf, AR.get, aExtract, aUn, Int.reduceEq, Int.reduceBEq, Int.reduceBNe, aBox, aLoad, aStore, aPart, aPlace, aArrAddr, aArrIdx, aIdx, aLenStr, aConv, aFold, aMinMax, aNilCheck, fillV, aEqBool, aEqInt, aEqStr, Nat.reduceAdd, Nat.reduceLeDiff, Nat.reduceMul, Int.reduceLT, Int.reduceLE, Int.reduceToNat, Int.reduceGT, Int.reduceGE, Int.reduceNeg, Int.reduceAdd, Int.reduceSub, wrap64, chkAdd, effAdd, AOp.kind, chkAll, chkSee, Nat.reduceLT, zP.down, zQ.down]
  repeat (first | refine w_fin ?_ | refine w_seq ?_ | refine w_block ?_ | refine w_reg ?_ | refine w_op ?_ | refine w_dop ?_)
  refine W.mono (Q := fun q => ∃ (ρ : Env) (σ' : St), q = ((.exit 0 : Ex), ρ, σ') ∧ ρ 0 = .ptr d 0 ∧ ρ 2 = .agg [.sc (.int .i64 (mac M 2).i), .sc (.int .i64 (mac M 2).t)] ∧ ρ 3 = .str (mac M 2).x ∧ ρ 5 = .sc (.bool (mac M 2).ok) ∧ Kept noX σ σ') ?_ ?_
  · refine w_loop (fun m ρ σ' => ∃ n, m = 2 - n ∧ n ≤ 2 ∧ ρ 0 = .ptr d 0 ∧ ρ 2 = .agg [.sc (.int .i64 (mac M n).i), .sc (.int .i64 (mac M n).t)] ∧ ρ 3 = .str (mac M n).x ∧ ρ 5 = .sc (.bool (mac M n).ok) ∧ ρ 6 = .sc (.int .i64 ((n + 2 : Nat) : Int)) ∧ Kept noX σ σ') 2 (by omega) ?_ ?_
    · refine ⟨0, rfl, by omega, ?_, ?_, ?_, ?_, ?_, (Kept.refl _ _).bump⟩
      all_goals first | rfl | (simp -implicitDefEqProofs (disch := first | exact nbf rfl | exact nbt rfl | (simp only [ne_eq, reduceCtorEq, not_false_eq_true]; done) | omega | (simp -implicitDefEqProofs only [St.n_push, St.n_put, St.n_bump, List.length_set] <;> omega) | fail) only [aCallv, aPtrEq, XOp.kind, AOp.run, AO.eval, put, reduceCtorEq, aInt, Nat.reduceEqDiff, initEnv, V.bool, V.i64, resultsOf, AR.get, aExtract, aUn, Int.reduceEq, Int.reduceBEq, Int.reduceBNe, aBox, aLoad, aStore, aPart, aPlace, aArrAddr, aArrIdx, aIdx, aLenStr, aConv, aFold, aMinMax, aEqV, aNilCheck, fillV, aEqBool, aEqInt, aEqStr, Nat.reduceAdd, Nat.reduceLeDiff, Nat.reduceMul, Int.reduceLT, Int.reduceLE, Int.reduceToNat, Int.reduceGT, Int.reduceGE, Int.reduceNeg, Int.reduceAdd, Int.reduceSub, wrap64, chkAdd, effAdd, AOp.kind, chkAll, chkSee, Nat.reduceLT, zP.down, zQ.down]; done) | (simp -implicitDefEqProofs (disch := first | exact nbf rfl | exact nbt rfl | (simp only [ne_eq, reduceCtorEq, not_false_eq_true]; done) | omega | (simp -implicitDefEqProofs only [St.n_push, St.n_put, St.n_bump, List.length_set] <;> omega) | fail) only [aCallv, aPtrEq, XOp.kind, AOp.run, AO.eval, put, reduceCtorEq, aInt, Nat.reduceEqDiff, initEnv, V.bool, V.i64, resultsOf, AR.get, aExtract, aUn, Int.reduceEq, Int.reduceBEq, Int.reduceBNe, aBox, aLoad, aStore, aPart, aPlace, aArrAddr, aArrIdx, aIdx, aLenStr, aConv, aFold, aMinMax, aEqV, aNilCheck, fillV, aEqBool, aEqInt, aEqStr, Nat.reduceAdd, Nat.reduceLeDiff, Nat.reduceMul, Int.reduceLT, Int.reduceLE, Int.reduceToNat, Int.reduceGT, Int.reduceGE, Int.reduceNeg, Int.reduceAdd, Int.reduceSub, wrap64, chkAdd, effAdd, AOp.kind, chkAll, chkSee, Nat.reduceLT, zP.down, zQ.down]; rfl)
    · rintro m ρ σ' ⟨n, hm2, hn, e0, e2, e3, e5, e6, kp⟩
      by_cases hl : n < 2
      · have c1 : decide (((n + 2 : Nat) : Int) ≤ 3) = true := by simp only [decide_eq_true_eq]; omega
        have w1 : IntKind.i64.wrap (((n + 2 : Nat) : Int) + 1) = ((n + 1 + 2 : Nat) : Int) := by rw [wrap64 (by omega) (by omega)]; omega
        have h1 := hrd σ' ((n + 2 : Nat) : Int) (h.kept kp (fun h => h))
        have hrl := read_len hm ((n + 2 : Nat) : Int)
        have hst : mac M (n + 1) = mst M (n + 2) (mac M n) := rfl
        unfold mst at hst
        generalize M.read ((n + 2 : Nat) : Int) = rr at *
        by_cases c2 : rr.2 = 0
        · have d2 : (rr.2 != 0) = false := by simp [c2]
          rw [if_neg (by simp [c2])] at hst
          simp -implicitDefEqProofs (disch := first | exact nbf rfl | exact nbt rfl | (simp only [ne_eq, reduceCtorEq, not_false_eq_true]; done) | omega | (simp -implicitDefEqProofs only [St.n_push, St.n_put, St.n_bump, List.length_set] <;> omega) | fail) only [c1, e0, e2, e3, e5, e6, h1, d2, aCallv, aPtrEq, XOp.kind, AOp.run, AO.eval, put, reduceCtorEq, aInt, Nat.reduceEqDiff, initEnv, V.bool, V.i64, resultsOf, AR.get, aExtract, aUn, Int.reduceEq, Int.reduceBEq, Int.reduceBNe, aBox, aLoad, aStore, aPart, aPlace, aArrAddr, aArrIdx, aIdx, aLenStr, aConv, aFold, aMinMax, aEqV, aNilCheck, fillV, aEqBool, aEqInt, aEqStr, Nat.reduceAdd, Nat.reduceLeDiff, Nat.reduceMul, Int.reduceLT, Int.reduceLE, Int.reduceToNat, Int.reduceGT, Int.reduceGE, Int.reduceNeg, Int.reduceAdd, Int.reduceSub, wrap64, chkAdd, effAdd, AOp.kind, chkAll, chkSee, Nat.reduceLT, zP.down, zQ.down]
          repeat (first | refine w_fin ?_ | refine w_seq ?_ | refine w_block ?_ | refine w_reg ?_ | refine w_op ?_ | refine w_dop ?_)
          refine (hsr _ _ hrl).mono ?_
          rintro ⟨_, σ2⟩ ⟨rfl, k2⟩
          dsimp only at k2
          have kk := kp.bump.bump.trans k2
          generalize sread rr.1 = q at *
          cases c3 : q.ok with
          | true =>
            by_cases c4 : q.i > (mac M n).i
            · have d4 : decide ((q.i : Int) > ((mac M n).i : Int)) = true := by simp; omega
              rw [if_pos ⟨c3, c4⟩] at hst
              simp -implicitDefEqProofs (disch := first | exact nbf rfl | exact nbt rfl | (simp only [ne_eq, reduceCtorEq, not_false_eq_true]; done) | omega | (simp -implicitDefEqProofs only [St.n_push, St.n_put, St.n_bump, List.length_set] <;> omega) | fail) only [srt, c3, d4, e0, e2, e3, e5, e6, w1, aCallv, aPtrEq, XOp.kind, AOp.run, AO.eval, put, reduceCtorEq, aInt, Nat.reduceEqDiff, initEnv, V.bool, V.i64, resultsOf, AR.get, aExtract, aUn, Int.reduceEq, Int.reduceBEq, Int.reduceBNe, aBox, aLoad, aStore, aPart, aPlace, aArrAddr, aArrIdx, aIdx, aLenStr, aConv, aFold, aMinMax, aEqV, aNilCheck, fillV, aEqBool, aEqInt, aEqStr, Nat.reduceAdd, Nat.reduceLeDiff, Nat.reduceMul, Int.reduceLT, Int.reduceLE, Int.reduceToNat, Int.reduceGT, Int.reduceGE, Int.reduceNeg, Int.reduceAdd, Int.reduceSub, wrap64, chkAdd, effAdd, AOp.kind, chkAll, chkSee, Nat.reduceLT, zP.down, zQ.down]
              exact ⟨2 - (n + 1), by omega, n + 1, rfl, by omega, by rw [hst], by rw [hst], by rw [hst], rfl, kk.bump⟩
            · have d4 : decide ((q.i : Int) > ((mac M n).i : Int)) = false := by simp; omega
              rw [if_neg (by simp [c4])] at hst
              simp -implicitDefEqProofs (disch := first | exact nbf rfl | exact nbt rfl | (simp only [ne_eq, reduceCtorEq, not_false_eq_true]; done) | omega | (simp -implicitDefEqProofs only [St.n_push, St.n_put, St.n_bump, List.length_set] <;> omega) | fail) only [srt, c3, d4, e0, e2, e3, e5, e6, w1, aCallv, aPtrEq, XOp.kind, AOp.run, AO.eval, put, reduceCtorEq, aInt, Nat.reduceEqDiff, initEnv, V.bool, V.i64, resultsOf, AR.get, aExtract, aUn, Int.reduceEq, Int.reduceBEq, Int.reduceBNe, aBox, aLoad, aStore, aPart, aPlace, aArrAddr, aArrIdx, aIdx, aLenStr, aConv, aFold, aMinMax, aEqV, aNilCheck, fillV, aEqBool, aEqInt, aEqStr, Nat.reduceAdd, Nat.reduceLeDiff, Nat.reduceMul, Int.reduceLT, Int.reduceLE, Int.reduceToNat, Int.reduceGT, Int.reduceGE, Int.reduceNeg, Int.reduceAdd, Int.reduceSub, wrap64, chkAdd, effAdd, AOp.kind, chkAll, chkSee, Nat.reduceLT, zP.down, zQ.down]
              exact ⟨2 - (n + 1), by omega, n + 1, rfl, by omega, by rw [hst], by rw [hst], by rw [hst], rfl, kk.bump⟩
          | false =>
            rw [if_neg (by simp [c3])] at hst
            simp -implicitDefEqProofs (disch := first | exact nbf rfl | exact nbt rfl | (simp only [ne_eq, reduceCtorEq, not_false_eq_true]; done) | omega | (simp -implicitDefEqProofs only [St.n_push, St.n_put, St.n_bump, List.length_set] <;> omega) | fail) only [srt, c3, e0, e2, e3, e5, e6, w1, aCallv, aPtrEq, XOp.kind, AOp.run, AO.eval, put, reduceCtorEq, aInt, Nat.reduceEqDiff, initEnv, V.bool, V.i64, resultsOf, AR.get, aExtract, aUn, Int.reduceEq, Int.reduceBEq, Int.reduceBNe, aBox, aLoad, aStore, aPart, aPlace, aArrAddr, aArrIdx, aIdx, aLenStr, aConv, aFold, aMinMax, aEqV, aNilCheck, fillV, aEqBool, aEqInt, aEqStr, Nat.reduceAdd, Nat.reduceLeDiff, Nat.reduceMul, Int.reduceLT, Int.reduceLE, Int.reduceToNat, Int.reduceGT, Int.reduceGE, Int.reduceNeg, Int.reduceAdd, Int.reduceSub, wrap64, chkAdd, effAdd, AOp.kind, chkAll, chkSee, Nat.reduceLT, zP.down, zQ.down]
            exact ⟨2 - (n + 1), by omega, n + 1, rfl, by omega, by rw [hst], by rw [hst], by rw [hst], rfl, kk.bump⟩
        · have d2 : (rr.2 != 0) = true := by simp [c2]
          rw [if_pos c2] at hst
          simp -implicitDefEqProofs (disch := first | exact nbf rfl | exact nbt rfl | (simp only [ne_eq, reduceCtorEq, not_false_eq_true]; done) | omega | (simp -implicitDefEqProofs only [St.n_push, St.n_put, St.n_bump, List.length_set] <;> omega) | fail) only [c1, e0, e2, e3, e5, e6, h1, d2, w1, aCallv, aPtrEq, XOp.kind, AOp.run, AO.eval, put, reduceCtorEq, aInt, Nat.reduceEqDiff, initEnv, V.bool, V.i64, resultsOf, AR.get, aExtract, aUn, Int.reduceEq, Int.reduceBEq, Int.reduceBNe, aBox, aLoad, aStore, aPart, aPlace, aArrAddr, aArrIdx, aIdx, aLenStr, aConv, aFold, aMinMax, aEqV, aNilCheck, fillV, aEqBool, aEqInt, aEqStr, Nat.reduceAdd, Nat.reduceLeDiff, Nat.reduceMul, Int.reduceLT, Int.reduceLE, Int.reduceToNat, Int.reduceGT, Int.reduceGE, Int.reduceNeg, Int.reduceAdd, Int.reduceSub, wrap64, chkAdd, effAdd, AOp.kind, chkAll, chkSee, Nat.reduceLT, zP.down, zQ.down]
          exact ⟨2 - (n + 1), by omega, n + 1, rfl, by omega, by rw [hst], by rw [hst], by rw [hst], rfl, kp.bump.bump⟩
      · have c1 : decide (((n + 2 : Nat) : Int) ≤ 3) = false := by simp only [decide_eq_false_iff_not]; omega
        have : n = 2 := by omega
        subst this
        simp -implicitDefEqProofs (disch := first | exact nbf rfl | exact nbt rfl | (simp only [ne_eq, reduceCtorEq, not_false_eq_true]; done) | omega | (simp -implicitDefEqProofs only [St.n_push, St.n_put, St.n_bump, List.length_set] <;> omega) | fail) only [c1, e6, aCallv, aPtrEq, XOp.kind, AOp.run, AO.eval, put, reduceCtorEq, aInt, Nat.reduceEqDiff, initEnv, V.bool, V.i64, resultsOf, AR.get, aExtract, aUn, Int.reduceEq, Int.reduceBEq, Int.reduceBNe, aBox, aLoad, aStore, aPart, aPlace, aArrAddr, aArrIdx, aIdx, aLenStr, aConv, aFold, aMinMax, aEqV, aNilCheck, fillV, aEqBool, aEqInt, aEqStr, Nat.reduceAdd, Nat.reduceLeDiff, Nat.reduceMul, Int.reduceLT, Int.reduceLE, Int.reduceToNat, Int.reduceGT, Int.reduceGE, Int.reduceNeg, Int.reduceAdd, Int.reduceSub, wrap64, chkAdd, effAdd, AOp.kind, chkAll, chkSee, Nat.reduceLT, zP.down, zQ.down]
        refine ⟨_, _, rfl, ?_, ?_, ?_, ?_, kp⟩
        all_goals (simp -implicitDefEqProofs (disch := first | exact nbf rfl | exact nbt rfl | (simp only [ne_eq, reduceCtorEq, not_false_eq_true]; done) | omega | (simp -implicitDefEqProofs only [St.n_push, St.n_put, St.n_bump, List.length_set] <;> omega) | fail) only [e0, e2, e3, e5, aCallv, aPtrEq, XOp.kind, AOp.run, AO.eval, put, reduceCtorEq, aInt, Nat.reduceEqDiff, initEnv, V.bool, V.i64, resultsOf, AR.get, aExtract, aUn, Int.reduceEq, Int.reduceBEq, Int.reduceBNe, aBox, aLoad, aStore, aPart, aPlace, aArrAddr, aArrIdx, aIdx, aLenStr, aConv, aFold, aMinMax, aEqV, aNilCheck, fillV, aEqBool, aEqInt, aEqStr, Nat.reduceAdd, Nat.reduceLeDiff, Nat.reduceMul, Int.reduceLT, Int.reduceLE, Int.reduceToNat, Int.reduceGT, Int.reduceGE, Int.reduceNeg, Int.reduceAdd, Int.reduceSub, wrap64, chkAdd, effAdd, AOp.kind, chkAll, chkSee, Nat.reduceLT, zP.down, zQ.down]; done)
  · rintro _ ⟨ρ, σ', rfl, e0, e2, e3, e5, kp⟩
    cases c3 : (mac M 2).ok with
    | true =>
      rw [c3] at e5
      rw [if_pos rfl]
      simp -implicitDefEqProofs (disch := first | exact nbf rfl | exact nbt rfl | (simp only [ne_eq, reduceCtorEq, not_false_eq_true]; done) | omega | (simp -implicitDefEqProofs only [St.n_push, St.n_put, St.n_bump, List.length_set] <;> omega) | fail) only [e0, e2, e3, e5, ldt, aCallv, aPtrEq, XOp.kind, AOp.run, AO.eval, put, reduceCtorEq, aInt, Nat.reduceEqDiff, initEnv, V.bool, V.i64, resultsOf, AR.get, aExtract, aUn, Int.reduceEq, Int.reduceBEq, Int.reduceBNe, aBox, aLoad, aStore, aPart, aPlace, aArrAddr, aArrIdx, aIdx, aLenStr, aConv, aFold, aMinMax, aEqV, aNilCheck, fillV, aEqBool, aEqInt, aEqStr, Nat.reduceAdd, Nat.reduceLeDiff, Nat.reduceMul, Int.reduceLT, Int.reduceLE, Int.reduceToNat, Int.reduceGT, Int.reduceGE, Int.reduceNeg, Int.reduceAdd, Int.reduceSub, wrap64, chkAdd, effAdd, AOp.kind, chkAll, chkSee, Nat.reduceLT, zP.down, zQ.down]
      exact kp
    | false =>
      rw [c3] at e5
      rw [if_neg (by simp)]
      simp -implicitDefEqProofs (disch := first | exact nbf rfl | exact nbt rfl | (simp only [ne_eq, reduceCtorEq, not_false_eq_true]; done) | omega | (simp -implicitDefEqProofs only [St.n_push, St.n_put, St.n_bump, List.length_set] <;> omega) | fail) only [e0, e2, e3, e5, ldt, bad0, aCallv, aPtrEq, XOp.kind, AOp.run, AO.eval, put, reduceCtorEq, aInt, Nat.reduceEqDiff, initEnv, V.bool, V.i64, resultsOf, AR.get, aExtract, aUn, Int.reduceEq, Int.reduceBEq, Int.reduceBNe, aBox, aLoad, aStore, aPart, aPlace, aArrAddr, aArrIdx, aIdx, aLenStr, aConv, aFold, aMinMax, aEqV, aNilCheck, fillV, aEqBool, aEqInt, aEqStr, Nat.reduceAdd, Nat.reduceLeDiff, Nat.reduceMul, Int.reduceLT, Int.reduceLE, Int.reduceToNat, Int.reduceGT, Int.reduceGE, Int.reduceNeg, Int.reduceAdd, Int.reduceSub, wrap64, chkAdd, effAdd, AOp.kind, chkAll, chkSee, Nat.reduceLT, zP.down, zQ.down]
      exact kp
end Go.Proofs.Ytjcobnjnjliehaa.sn
namespace Go.Proofs.Ytjcobnjnjliehaa.sn
open Go.Ab fr dk
set_option maxRecDepth 100000
set_option maxHeartbeats 8000000
set_option linter.unusedSimpArgs false
set_option linter.unusedVariables false

def sfl (M : DM) : Nat := if (M.read 2).2 = 0 ∧ (sread (M.read 2).1).ok = true ∧ (sread (M.read 2).1).i = (mld M).1.i ∧ (sread (M.read 2).1).t = (mld M).1.t then 3 else 2
def msw (M : DM) (f : Int) (s : List UInt8) : DM × Int :=
  let r := M.change f ⟨3, [], 0⟩
  if r.2 ≠ 0 ∧ r.2 ≠ 4 then r
  else
    let q := r.1.change f ⟨1, s, 0⟩
    if q.2 ≠ 0 then q else q.1.sync f
def msave (M : DM) (i t : Int) (x : List UInt8) : DM × Int :=
  if M.power = 0 then (M, 40)
  else if i < 1 ∨ i > 1048576 ∨ t < 0 ∨ t > 1099511627776 then (M, 2)
  else if x.length > 262144 then (M, 3)
  else if (mld M).2 = 0 ∧ i ≤ (mld M).1.i then (M, 5)
  else msw M (sfl M) (sfile i.toNat t.toNat x)

theorem save_ok (k : Nat) (ys : YlF) (σ : St) (d : Nat) (M : DM) (i t : Int) (x : List UInt8) (h : DR σ d M) {B : Nat} (hm : M.Ok B) (hB : B ≤ 999990) (hk : 1100000 ≤ k) :
    W (callY Tab.tb (k + 9) ys 15 [.ptr d 0, .agg [.sc (.int .i64 i), .sc (.int .i64 t)], .str x] σ) fun r => r.1 = .sc (.int .i64 (msave M i t x).2) ∧ DR r.2 d (msave M i t x).1 ∧ Kept (· = d) σ r.2 := by
  rw [s_call (af := Tab.b15) rfl (Nat.le_of_ble_eq_true rfl)]
  have hon := fun σ h => on_ok (k + 7) ys σ d M h
  have hld := fun σ h => sn.load_ok k ys σ d M h hm hk
  have hrd := fun σ f h => dk.read_ok (k + 6) ys σ d M f h
  have hsr := fun σ s hs => sn.read_ok (k + 1) ys σ s hs (by omega)
  have hfl := fun σ i t x hi ht hx => file_ok (k + 3) ys σ i t x hi ht hx (by omega)
  have hrm := fun σ f h => remove_ok (B := B) (k + 5) ys σ d M f h hm (by omega)
  have hap := fun σ f s M' h hm' => append_ok (B := B + 1) (k + 5) ys σ d M' f s h hm' (by omega)
  have hsy := fun σ f M' h hm' => sync_ok (B := B + 2) (k + 6) ys σ d M' f h hm' (by omega)
  generalize callY Tab.tb (k + 8) = cy at hon hld hrd hsr hfl hrm hap hsy ⊢
  have hb := h.kept ((Kept.refl noX σ).bump) (fun h => h)
  have hd := h.lt
  unfold msave
  by_cases hp : M.power = 0
  · have d1 : (M.power != 0) = false := by simp [hp]
    have ho := hon _ hb
    rw [if_pos hp]
    simp -implicitDefEqProofs (disch := first | exact nbf rfl | exact nbt rfl | (simp only [ne_eq, reduceCtorEq, not_false_eq_true]; done) | omega | (simp -implicitDefEqProofs only [St.n_push, St.n_put, St.n_bump, List.length_set] <;> omega) | fail) only [Tab.b15, dk.pnil, ho, d1, aCallv, aPtrEq, XOp.kind, AOp.run, AO.eval, put, reduceCtorEq, aInt, Nat.reduceEqDiff, initEnv, V.bool, V.i64, resultsOf, AR.get, aExtract, aUn, Int.reduceEq, Int.reduceBEq, Int.reduceBNe, aBox, aLoad, aStore, aPart, aPlace, aArrAddr, aArrIdx, aIdx, aLenStr, aConv, aFold, aMinMax, aNilCheck, fillV, aEqBool, aEqInt, aEqStr, Nat.reduceAdd, Nat.reduceLeDiff, Nat.reduceMul, Int.reduceLT, Int.reduceLE, Int.reduceToNat, Int.reduceGT, Int.reduceGE, Int.reduceNeg, Int.reduceAdd, Int.reduceSub, wrap64, chkAdd, effAdd, AOp.kind, chkAll, chkSee, Nat.reduceLT, zP.down, zQ.down]
    exact ⟨hb, (Kept.refl _ _).bump⟩
  have d1 : (M.power != 0) = true := by simp [hp]
  rw [if_neg hp]
  have ho := hon _ hb
  by_cases e1 : i < 1
  · have f1 : decide (i < 1) = true := by simp; omega
    rw [if_pos (.inl e1)]
    simp -implicitDefEqProofs (disch := first | exact nbf rfl | exact nbt rfl | (simp only [ne_eq, reduceCtorEq, not_false_eq_true]; done) | omega | (simp -implicitDefEqProofs only [St.n_push, St.n_put, St.n_bump, List.length_set] <;> omega) | fail) only [Tab.b15, dk.pnil, ho, d1, f1, aCallv, aPtrEq, XOp.kind, AOp.run, AO.eval, put, reduceCtorEq, aInt, Nat.reduceEqDiff, initEnv, V.bool, V.i64, resultsOf, AR.get, aExtract, aUn, Int.reduceEq, Int.reduceBEq, Int.reduceBNe, aBox, aLoad, aStore, aPart, aPlace, aArrAddr, aArrIdx, aIdx, aLenStr, aConv, aFold, aMinMax, aNilCheck, fillV, aEqBool, aEqInt, aEqStr, Nat.reduceAdd, Nat.reduceLeDiff, Nat.reduceMul, Int.reduceLT, Int.reduceLE, Int.reduceToNat, Int.reduceGT, Int.reduceGE, Int.reduceNeg, Int.reduceAdd, Int.reduceSub, wrap64, chkAdd, effAdd, AOp.kind, chkAll, chkSee, Nat.reduceLT, zP.down, zQ.down]
    exact ⟨hb, (Kept.refl _ _).bump⟩
  have f1 : decide (i < 1) = false := by simp; omega
  by_cases e2 : i > 1048576
  · have f2 : decide (i > 1048576) = true := by simp; omega
    rw [if_pos (.inr (.inl e2))]
    simp -implicitDefEqProofs (disch := first | exact nbf rfl | exact nbt rfl | (simp only [ne_eq, reduceCtorEq, not_false_eq_true]; done) | omega | (simp -implicitDefEqProofs only [St.n_push, St.n_put, St.n_bump, List.length_set] <;> omega) | fail) only [Tab.b15, dk.pnil, ho, d1, f1, f2, aCallv, aPtrEq, XOp.kind, AOp.run, AO.eval, put, reduceCtorEq, aInt, Nat.reduceEqDiff, initEnv, V.bool, V.i64, resultsOf, AR.get, aExtract, aUn, Int.reduceEq, Int.reduceBEq, Int.reduceBNe, aBox, aLoad, aStore, aPart, aPlace, aArrAddr, aArrIdx, aIdx, aLenStr, aConv, aFold, aMinMax, aNilCheck, fillV, aEqBool, aEqInt, aEqStr, Nat.reduceAdd, Nat.reduceLeDiff, Nat.reduceMul, Int.reduceLT, Int.reduceLE, Int.reduceToNat, Int.reduceGT, Int.reduceGE, Int.reduceNeg, Int.reduceAdd, Int.reduceSub, wrap64, chkAdd, effAdd, AOp.kind, chkAll, chkSee, Nat.reduceLT, zP.down, zQ.down]
    exact ⟨hb, (Kept.refl _ _).bump⟩
  have f2 : decide (i > 1048576) = false := by simp; omega
  by_cases e3 : t < 0
  · have f3 : decide (t < 0) = true := by simp; omega
    rw [if_pos (.inr (.inr (.inl e3)))]
    simp -implicitDefEqProofs (disch := first | exact nbf rfl | exact nbt rfl | (simp only [ne_eq, reduceCtorEq, not_false_eq_true]; done) | omega | (simp -implicitDefEqProofs only [St.n_push, St.n_put, St.n_bump, List.length_set] <;> omega) | fail) only [Tab.b15, dk.pnil, ho, d1, f1, f2, f3, aCallv, aPtrEq, XOp.kind, AOp.run, AO.eval, put, reduceCtorEq, aInt, Nat.reduceEqDiff, initEnv, V.bool, V.i64, resultsOf, AR.get, aExtract, aUn, Int.reduceEq, Int.reduceBEq, Int.reduceBNe, aBox, aLoad, aStore, aPart, aPlace, aArrAddr, aArrIdx, aIdx, aLenStr, aConv, aFold, aMinMax, aNilCheck, fillV, aEqBool, aEqInt, aEqStr, Nat.reduceAdd, Nat.reduceLeDiff, Nat.reduceMul, Int.reduceLT, Int.reduceLE, Int.reduceToNat, Int.reduceGT, Int.reduceGE, Int.reduceNeg, Int.reduceAdd, Int.reduceSub, wrap64, chkAdd, effAdd, AOp.kind, chkAll, chkSee, Nat.reduceLT, zP.down, zQ.down]
    exact ⟨hb, (Kept.refl _ _).bump⟩
  have f3 : decide (t < 0) = false := by simp; omega
  by_cases e4 : t > 1099511627776
  · have f4 : decide (t > 1099511627776) = true := by simp; omega
    rw [if_pos (.inr (.inr (.inr e4)))]
    simp -implicitDefEqProofs (disch := first | exact nbf rfl | exact nbt rfl | (simp only [ne_eq, reduceCtorEq, not_false_eq_true]; done) | omega | (simp -implicitDefEqProofs only [St.n_push, St.n_put, St.n_bump, List.length_set] <;> omega) | fail) only [Tab.b15, dk.pnil, ho, d1, f1, f2, f3, f4, aCallv, aPtrEq, XOp.kind, AOp.run, AO.eval, put, reduceCtorEq, aInt, Nat.reduceEqDiff, initEnv, V.bool, V.i64, resultsOf, AR.get, aExtract, aUn, Int.reduceEq, Int.reduceBEq, Int.reduceBNe, aBox, aLoad, aStore, aPart, aPlace, aArrAddr, aArrIdx, aIdx, aLenStr, aConv, aFold, aMinMax, aNilCheck, fillV, aEqBool, aEqInt, aEqStr, Nat.reduceAdd, Nat.reduceLeDiff, Nat.reduceMul, Int.reduceLT, Int.reduceLE, Int.reduceToNat, Int.reduceGT, Int.reduceGE, Int.reduceNeg, Int.reduceAdd, Int.reduceSub, wrap64, chkAdd, effAdd, AOp.kind, chkAll, chkSee, Nat.reduceLT, zP.down, zQ.down]
    exact ⟨hb, (Kept.refl _ _).bump⟩
  have f4 : decide (t > 1099511627776) = false := by simp; omega
  rw [if_neg (by omega)]
  by_cases e5 : x.length > 262144
  · have f5 : decide ((x.length : Int) > 262144) = true := by simp; omega
    rw [if_pos e5]
    simp -implicitDefEqProofs (disch := first | exact nbf rfl | exact nbt rfl | (simp only [ne_eq, reduceCtorEq, not_false_eq_true]; done) | omega | (simp -implicitDefEqProofs only [St.n_push, St.n_put, St.n_bump, List.length_set] <;> omega) | fail) only [Tab.b15, dk.pnil, ho, d1, f1, f2, f3, f4, f5, aCallv, aPtrEq, XOp.kind, AOp.run, AO.eval, put, reduceCtorEq, aInt, Nat.reduceEqDiff, initEnv, V.bool, V.i64, resultsOf, AR.get, aExtract, aUn, Int.reduceEq, Int.reduceBEq, Int.reduceBNe, aBox, aLoad, aStore, aPart, aPlace, aArrAddr, aArrIdx, aIdx, aLenStr, aConv, aFold, aMinMax, aNilCheck, fillV, aEqBool, aEqInt, aEqStr, Nat.reduceAdd, Nat.reduceLeDiff, Nat.reduceMul, Int.reduceLT, Int.reduceLE, Int.reduceToNat, Int.reduceGT, Int.reduceGE, Int.reduceNeg, Int.reduceAdd, Int.reduceSub, wrap64, chkAdd, effAdd, AOp.kind, chkAll, chkSee, Nat.reduceLT, zP.down, zQ.down]
    exact ⟨hb, (Kept.refl _ _).bump⟩
  have f5 : decide ((x.length : Int) > 262144) = false := by simp; omega
  rw [if_neg e5]
  obtain ⟨i, rfl⟩ : ∃ n : Nat, i = n := ⟨i.toNat, by omega⟩
  obtain ⟨t, rfl⟩ : ∃ n : Nat, t = n := ⟨t.toNat, by omega⟩
  rw [Int.toNat_natCast, Int.toNat_natCast]
  simp -implicitDefEqProofs (disch := first | exact nbf rfl | exact nbt rfl | (simp only [ne_eq, reduceCtorEq, not_false_eq_true]; done) | omega | (simp -implicitDefEqProofs only [St.n_push, St.n_put, St.n_bump, List.length_set] <;> omega) | fail) only [Tab.b15, dk.pnil, ho, d1, f1, f2, f3, f4, f5, aCallv, aPtrEq, XOp.kind, AOp.run, AO.eval, put, reduceCtorEq, aInt, Nat.reduceEqDiff, initEnv, V.bool, V.i64, resultsOf, AR.get, aExtract, aUn, Int.reduceEq, Int.reduceBEq, Int.reduceBNe, aBox, aLoad, aStore, aPart, aPlace, aArrAddr, aArrIdx, aIdx, aLenStr, aConv, aFold, aMinMax, aNilCheck, fillV, aEqBool, aEqInt, aEqStr, Nat.reduceAdd, Nat.reduceLeDiff, Nat.reduceMul, Int.reduceLT, Int.reduceLE, Int.reduceToNat, Int.reduceGT, Int.reduceGE, Int.reduceNeg, Int.reduceAdd, Int.reduceSub, wrap64, chkAdd, effAdd, AOp.kind, chkAll, chkSee, Nat.reduceLT, zP.down, zQ.down]
  repeat (first | refine w_fin ?_ | refine w_seq ?_ | refine w_block ?_ | refine w_reg ?_ | refine w_op ?_ | refine w_dop ?_)
  refine (hld _ hb).mono ?_
  rintro ⟨_, σ1⟩ ⟨rfl, k1⟩
  dsimp only at k1
  have kk1 : Kept noX σ σ1 := (Kept.refl _ _).bump.trans k1
  unfold sfl
  generalize mld M = old at *
  -- where it goes
  have rest : ∀ (f : Int) (σ2 : St), Kept noX σ σ2 → DR σ2 d M := fun f σ2 k => h.kept k (fun h => h)
  by_cases g0 : old.2 = 0 ∧ (i : Int) ≤ old.1.i
  · have d2 : (old.2 == 0) = true := by simp [g0.1]
    have d3 : decide ((i : Int) ≤ (old.1.i : Int)) = true := by simp; omega
    rw [if_pos g0]
    simp -implicitDefEqProofs (disch := first | exact nbf rfl | exact nbt rfl | (simp only [ne_eq, reduceCtorEq, not_false_eq_true]; done) | omega | (simp -implicitDefEqProofs only [St.n_push, St.n_put, St.n_bump, List.length_set] <;> omega) | fail) only [ldt, d2, d3, aCallv, aPtrEq, XOp.kind, AOp.run, AO.eval, put, reduceCtorEq, aInt, Nat.reduceEqDiff, initEnv, V.bool, V.i64, resultsOf, AR.get, aExtract, aUn, Int.reduceEq, Int.reduceBEq, Int.reduceBNe, aBox, aLoad, aStore, aPart, aPlace, aArrAddr, aArrIdx, aIdx, aLenStr, aConv, aFold, aMinMax, aEqV, aNilCheck, fillV, aEqBool, aEqInt, aEqStr, Nat.reduceAdd, Nat.reduceLeDiff, Nat.reduceMul, Int.reduceLT, Int.reduceLE, Int.reduceToNat, Int.reduceGT, Int.reduceGE, Int.reduceNeg, Int.reduceAdd, Int.reduceSub, wrap64, chkAdd, effAdd, AOp.kind, chkAll, chkSee, Nat.reduceLT, zP.down, zQ.down]
    exact ⟨h.kept kk1.bump (fun h => h), kk1.bump.any⟩
  rw [if_neg g0]
  -- the old one is not newer
  have cond0 : ∃ b, (old.2 == 0) = b ∧ (b = true → decide ((i : Int) ≤ (old.1.i : Int)) = false) := by
    refine ⟨_, rfl, fun hb => ?_⟩
    simp only [beq_iff_eq] at hb
    simp only [decide_eq_false_iff_not]
    exact fun h => g0 ⟨hb, h⟩
  obtain ⟨b, hb1, hb2⟩ := cond0
  simp -implicitDefEqProofs (disch := first | exact nbf rfl | exact nbt rfl | (simp only [ne_eq, reduceCtorEq, not_false_eq_true]; done) | omega | (simp -implicitDefEqProofs only [St.n_push, St.n_put, St.n_bump, List.length_set] <;> omega) | fail) only [ldt, aCallv, aPtrEq, XOp.kind, AOp.run, AO.eval, put, reduceCtorEq, aInt, Nat.reduceEqDiff, initEnv, V.bool, V.i64, resultsOf, AR.get, aExtract, aUn, Int.reduceEq, Int.reduceBEq, Int.reduceBNe, aBox, aLoad, aStore, aPart, aPlace, aArrAddr, aArrIdx, aIdx, aLenStr, aConv, aFold, aMinMax, aEqV, aNilCheck, fillV, aEqBool, aEqInt, aEqStr, Nat.reduceAdd, Nat.reduceLeDiff, Nat.reduceMul, Int.reduceLT, Int.reduceLE, Int.reduceToNat, Int.reduceGT, Int.reduceGE, Int.reduceNeg, Int.reduceAdd, Int.reduceSub, wrap64, chkAdd, effAdd, AOp.kind, chkAll, chkSee, Nat.reduceLT, zP.down, zQ.down]
  refine w_seq ?_
  refine W.mono (Q := fun q => ∃ (ρ : Env), q = ((.normal : Ex), ρ, σ1.bump) ∧ ρ 0 = .ptr d 0 ∧ ρ 2 = .str x ∧ ρ 4 = .agg [.sc (.int .i64 i), .sc (.int .i64 t)] ∧ ρ 7 = .agg [.sc (.int .i64 old.1.i), .sc (.int .i64 old.1.t)]) ?_ ?_
  · cases b with
    | true =>
      have hb3 := hb2 rfl
      simp -implicitDefEqProofs (disch := first | exact nbf rfl | exact nbt rfl | (simp only [ne_eq, reduceCtorEq, not_false_eq_true]; done) | omega | (simp -implicitDefEqProofs only [St.n_push, St.n_put, St.n_bump, List.length_set] <;> omega) | fail) only [hb1, hb3, aCallv, aPtrEq, XOp.kind, AOp.run, AO.eval, put, reduceCtorEq, aInt, Nat.reduceEqDiff, initEnv, V.bool, V.i64, resultsOf, AR.get, aExtract, aUn, Int.reduceEq, Int.reduceBEq, Int.reduceBNe, aBox, aLoad, aStore, aPart, aPlace, aArrAddr, aArrIdx, aIdx, aLenStr, aConv, aFold, aMinMax, aEqV, aNilCheck, fillV, aEqBool, aEqInt, aEqStr, Nat.reduceAdd, Nat.reduceLeDiff, Nat.reduceMul, Int.reduceLT, Int.reduceLE, Int.reduceToNat, Int.reduceGT, Int.reduceGE, Int.reduceNeg, Int.reduceAdd, Int.reduceSub, wrap64, chkAdd, effAdd, AOp.kind, chkAll, chkSee, Nat.reduceLT, zP.down, zQ.down]
      refine ⟨_, rfl, ?_, ?_, ?_, ?_⟩
      all_goals (simp -implicitDefEqProofs (disch := first | exact nbf rfl | exact nbt rfl | (simp only [ne_eq, reduceCtorEq, not_false_eq_true]; done) | omega | (simp -implicitDefEqProofs only [St.n_push, St.n_put, St.n_bump, List.length_set] <;> omega) | fail) only [aCallv, aPtrEq, XOp.kind, AOp.run, AO.eval, put, reduceCtorEq, aInt, Nat.reduceEqDiff, initEnv, V.bool, V.i64, resultsOf, AR.get, aExtract, aUn, Int.reduceEq, Int.reduceBEq, Int.reduceBNe, aBox, aLoad, aStore, aPart, aPlace, aArrAddr, aArrIdx, aIdx, aLenStr, aConv, aFold, aMinMax, aEqV, aNilCheck, fillV, aEqBool, aEqInt, aEqStr, Nat.reduceAdd, Nat.reduceLeDiff, Nat.reduceMul, Int.reduceLT, Int.reduceLE, Int.reduceToNat, Int.reduceGT, Int.reduceGE, Int.reduceNeg, Int.reduceAdd, Int.reduceSub, wrap64, chkAdd, effAdd, AOp.kind, chkAll, chkSee, Nat.reduceLT, zP.down, zQ.down]; done)
    | false =>
      simp -implicitDefEqProofs (disch := first | exact nbf rfl | exact nbt rfl | (simp only [ne_eq, reduceCtorEq, not_false_eq_true]; done) | omega | (simp -implicitDefEqProofs only [St.n_push, St.n_put, St.n_bump, List.length_set] <;> omega) | fail) only [hb1, aCallv, aPtrEq, XOp.kind, AOp.run, AO.eval, put, reduceCtorEq, aInt, Nat.reduceEqDiff, initEnv, V.bool, V.i64, resultsOf, AR.get, aExtract, aUn, Int.reduceEq, Int.reduceBEq, Int.reduceBNe, aBox, aLoad, aStore, aPart, aPlace, aArrAddr, aArrIdx, aIdx, aLenStr, aConv, aFold, aMinMax, aEqV, aNilCheck, fillV, aEqBool, aEqInt, aEqStr, Nat.reduceAdd, Nat.reduceLeDiff, Nat.reduceMul, Int.reduceLT, Int.reduceLE, Int.reduceToNat, Int.reduceGT, Int.reduceGE, Int.reduceNeg, Int.reduceAdd, Int.reduceSub, wrap64, chkAdd, effAdd, AOp.kind, chkAll, chkSee, Nat.reduceLT, zP.down, zQ.down]
      refine ⟨_, rfl, ?_, ?_, ?_, ?_⟩
      all_goals (simp -implicitDefEqProofs (disch := first | exact nbf rfl | exact nbt rfl | (simp only [ne_eq, reduceCtorEq, not_false_eq_true]; done) | omega | (simp -implicitDefEqProofs only [St.n_push, St.n_put, St.n_bump, List.length_set] <;> omega) | fail) only [aCallv, aPtrEq, XOp.kind, AOp.run, AO.eval, put, reduceCtorEq, aInt, Nat.reduceEqDiff, initEnv, V.bool, V.i64, resultsOf, AR.get, aExtract, aUn, Int.reduceEq, Int.reduceBEq, Int.reduceBNe, aBox, aLoad, aStore, aPart, aPlace, aArrAddr, aArrIdx, aIdx, aLenStr, aConv, aFold, aMinMax, aEqV, aNilCheck, fillV, aEqBool, aEqInt, aEqStr, Nat.reduceAdd, Nat.reduceLeDiff, Nat.reduceMul, Int.reduceLT, Int.reduceLE, Int.reduceToNat, Int.reduceGT, Int.reduceGE, Int.reduceNeg, Int.reduceAdd, Int.reduceSub, wrap64, chkAdd, effAdd, AOp.kind, chkAll, chkSee, Nat.reduceLT, zP.down, zQ.down]; done)
  · rintro _ ⟨ρ, rfl, e0, e2', e4', e7⟩
    have kb : Kept noX σ σ1.bump := kk1.bump
    have r2 := hrd σ1.bump 2 (rest 0 _ kb)
    have hrl := read_len hm 2
    generalize M.read 2 = rr at *
    simp -implicitDefEqProofs (disch := first | exact nbf rfl | exact nbt rfl | (simp only [ne_eq, reduceCtorEq, not_false_eq_true]; done) | omega | (simp -implicitDefEqProofs only [St.n_push, St.n_put, St.n_bump, List.length_set] <;> omega) | fail) only [e0, r2, aCallv, aPtrEq, XOp.kind, AOp.run, AO.eval, put, reduceCtorEq, aInt, Nat.reduceEqDiff, initEnv, V.bool, V.i64, resultsOf, AR.get, aExtract, aUn, Int.reduceEq, Int.reduceBEq, Int.reduceBNe, aBox, aLoad, aStore, aPart, aPlace, aArrAddr, aArrIdx, aIdx, aLenStr, aConv, aFold, aMinMax, aEqV, aNilCheck, fillV, aEqBool, aEqInt, aEqStr, Nat.reduceAdd, Nat.reduceLeDiff, Nat.reduceMul, Int.reduceLT, Int.reduceLE, Int.reduceToNat, Int.reduceGT, Int.reduceGE, Int.reduceNeg, Int.reduceAdd, Int.reduceSub, wrap64, chkAdd, effAdd, AOp.kind, chkAll, chkSee, Nat.reduceLT, zP.down, zQ.down]
    refine w_seq ?_
    refine W.mono (Q := fun q => ∃ (ρ : Env) (σ2 : St), q = ((.normal : Ex), ρ, σ2) ∧ ρ 0 = .ptr d 0 ∧ ρ 2 = .str x ∧ ρ 4 = .agg [.sc (.int .i64 i), .sc (.int .i64 t)] ∧ ρ 10 = .sc (.int .i64 ((if rr.2 = 0 ∧ (sread rr.1).ok = true ∧ (sread rr.1).i = old.1.i ∧ (sread rr.1).t = old.1.t then 3 else 2 : Nat) : Int)) ∧ Kept noX σ σ2) ?_ ?_
    · by_cases c2 : rr.2 = 0
      · have d2 : (rr.2 == 0) = true := by simp [c2]
        simp -implicitDefEqProofs (disch := first | exact nbf rfl | exact nbt rfl | (simp only [ne_eq, reduceCtorEq, not_false_eq_true]; done) | omega | (simp -implicitDefEqProofs only [St.n_push, St.n_put, St.n_bump, List.length_set] <;> omega) | fail) only [d2, aCallv, aPtrEq, XOp.kind, AOp.run, AO.eval, put, reduceCtorEq, aInt, Nat.reduceEqDiff, initEnv, V.bool, V.i64, resultsOf, AR.get, aExtract, aUn, Int.reduceEq, Int.reduceBEq, Int.reduceBNe, aBox, aLoad, aStore, aPart, aPlace, aArrAddr, aArrIdx, aIdx, aLenStr, aConv, aFold, aMinMax, aEqV, aNilCheck, fillV, aEqBool, aEqInt, aEqStr, Nat.reduceAdd, Nat.reduceLeDiff, Nat.reduceMul, Int.reduceLT, Int.reduceLE, Int.reduceToNat, Int.reduceGT, Int.reduceGE, Int.reduceNeg, Int.reduceAdd, Int.reduceSub, wrap64, chkAdd, effAdd, AOp.kind, chkAll, chkSee, Nat.reduceLT, zP.down, zQ.down]
        repeat (first | refine w_fin ?_ | refine w_seq ?_ | refine w_block ?_ | refine w_reg ?_ | refine w_op ?_ | refine w_dop ?_)
        refine (hsr _ _ hrl).mono ?_
        rintro ⟨_, σ3⟩ ⟨rfl, k3⟩
        dsimp only at k3
        have kk3 : Kept noX σ σ3 := kb.bump.bump.trans k3
        generalize sread rr.1 = q at *
        cases c3 : q.ok with
        | true =>
          by_cases c4 : q.i = old.1.i ∧ q.t = old.1.t
          · have d4 : aEqV σ3.bump (.struct [(0, none, .int .i64), (1, none, .int .i64)]) (.agg [.sc (.int .i64 q.i), .sc (.int .i64 q.t)]) (.agg [.sc (.int .i64 old.1.i), .sc (.int .i64 old.1.t)]) = some true := by
              rw [sn.eq2]; simp [c4.1, c4.2]
            rw [if_pos ⟨c2, rfl, c4⟩]
            simp -implicitDefEqProofs (disch := first | exact nbf rfl | exact nbt rfl | (simp only [ne_eq, reduceCtorEq, not_false_eq_true]; done) | omega | (simp -implicitDefEqProofs only [St.n_push, St.n_put, St.n_bump, List.length_set] <;> omega) | fail) only [srt, c3, e7, d4, aCallv, aPtrEq, XOp.kind, AOp.run, AO.eval, put, reduceCtorEq, aInt, Nat.reduceEqDiff, initEnv, V.bool, V.i64, resultsOf, AR.get, aExtract, aUn, Int.reduceEq, Int.reduceBEq, Int.reduceBNe, aBox, aLoad, aStore, aPart, aPlace, aArrAddr, aArrIdx, aIdx, aLenStr, aConv, aFold, aMinMax, aNilCheck, fillV, aEqBool, aEqInt, aEqStr, Nat.reduceAdd, Nat.reduceLeDiff, Nat.reduceMul, Int.reduceLT, Int.reduceLE, Int.reduceToNat, Int.reduceGT, Int.reduceGE, Int.reduceNeg, Int.reduceAdd, Int.reduceSub, wrap64, chkAdd, effAdd, AOp.kind, chkAll, chkSee, Nat.reduceLT, zP.down, zQ.down]
            refine ⟨_, _, rfl, ?_, ?_, ?_, ?_, kk3.bump⟩
            all_goals (simp -implicitDefEqProofs (disch := first | exact nbf rfl | exact nbt rfl | (simp only [ne_eq, reduceCtorEq, not_false_eq_true]; done) | omega | (simp -implicitDefEqProofs only [St.n_push, St.n_put, St.n_bump, List.length_set] <;> omega) | fail) only [e0, e2', e4', aCallv, aPtrEq, XOp.kind, AOp.run, AO.eval, put, reduceCtorEq, aInt, Nat.reduceEqDiff, initEnv, V.bool, V.i64, resultsOf, AR.get, aExtract, aUn, Int.reduceEq, Int.reduceBEq, Int.reduceBNe, aBox, aLoad, aStore, aPart, aPlace, aArrAddr, aArrIdx, aIdx, aLenStr, aConv, aFold, aMinMax, aEqV, aNilCheck, fillV, aEqBool, aEqInt, aEqStr, Nat.reduceAdd, Nat.reduceLeDiff, Nat.reduceMul, Int.reduceLT, Int.reduceLE, Int.reduceToNat, Int.reduceGT, Int.reduceGE, Int.reduceNeg, Int.reduceAdd, Int.reduceSub, wrap64, chkAdd, effAdd, AOp.kind, chkAll, chkSee, Nat.reduceLT, zP.down, zQ.down]; done)
          · have d4 : aEqV σ3.bump (.struct [(0, none, .int .i64), (1, none, .int .i64)]) (.agg [.sc (.int .i64 q.i), .sc (.int .i64 q.t)]) (.agg [.sc (.int .i64 old.1.i), .sc (.int .i64 old.1.t)]) = some false := by
              rw [sn.eq2]
              simp only [Option.some.injEq, Bool.and_eq_false_iff, beq_eq_false_iff_ne, ne_eq]
              omega
            rw [if_neg (fun h => c4 h.2.2)]
            simp -implicitDefEqProofs (disch := first | exact nbf rfl | exact nbt rfl | (simp only [ne_eq, reduceCtorEq, not_false_eq_true]; done) | omega | (simp -implicitDefEqProofs only [St.n_push, St.n_put, St.n_bump, List.length_set] <;> omega) | fail) only [srt, c3, e7, d4, aCallv, aPtrEq, XOp.kind, AOp.run, AO.eval, put, reduceCtorEq, aInt, Nat.reduceEqDiff, initEnv, V.bool, V.i64, resultsOf, AR.get, aExtract, aUn, Int.reduceEq, Int.reduceBEq, Int.reduceBNe, aBox, aLoad, aStore, aPart, aPlace, aArrAddr, aArrIdx, aIdx, aLenStr, aConv, aFold, aMinMax, aNilCheck, fillV, aEqBool, aEqInt, aEqStr, Nat.reduceAdd, Nat.reduceLeDiff, Nat.reduceMul, Int.reduceLT, Int.reduceLE, Int.reduceToNat, Int.reduceGT, Int.reduceGE, Int.reduceNeg, Int.reduceAdd, Int.reduceSub, wrap64, chkAdd, effAdd, AOp.kind, chkAll, chkSee, Nat.reduceLT, zP.down, zQ.down]
            refine ⟨_, _, rfl, ?_, ?_, ?_, ?_, kk3.bump⟩
            all_goals (simp -implicitDefEqProofs (disch := first | exact nbf rfl | exact nbt rfl | (simp only [ne_eq, reduceCtorEq, not_false_eq_true]; done) | omega | (simp -implicitDefEqProofs only [St.n_push, St.n_put, St.n_bump, List.length_set] <;> omega) | fail) only [e0, e2', e4', aCallv, aPtrEq, XOp.kind, AOp.run, AO.eval, put, reduceCtorEq, aInt, Nat.reduceEqDiff, initEnv, V.bool, V.i64, resultsOf, AR.get, aExtract, aUn, Int.reduceEq, Int.reduceBEq, Int.reduceBNe, aBox, aLoad, aStore, aPart, aPlace, aArrAddr, aArrIdx, aIdx, aLenStr, aConv, aFold, aMinMax, aEqV, aNilCheck, fillV, aEqBool, aEqInt, aEqStr, Nat.reduceAdd, Nat.reduceLeDiff, Nat.reduceMul, Int.reduceLT, Int.reduceLE, Int.reduceToNat, Int.reduceGT, Int.reduceGE, Int.reduceNeg, Int.reduceAdd, Int.reduceSub, wrap64, chkAdd, effAdd, AOp.kind, chkAll, chkSee, Nat.reduceLT, zP.down, zQ.down]; done)
        | false =>
          rw [if_neg (by simp)]
          simp -implicitDefEqProofs (disch := first | exact nbf rfl | exact nbt rfl | (simp only [ne_eq, reduceCtorEq, not_false_eq_true]; done) | omega | (simp -implicitDefEqProofs only [St.n_push, St.n_put, St.n_bump, List.length_set] <;> omega) | fail) only [srt, c3, e7, aCallv, aPtrEq, XOp.kind, AOp.run, AO.eval, put, reduceCtorEq, aInt, Nat.reduceEqDiff, initEnv, V.bool, V.i64, resultsOf, AR.get, aExtract, aUn, Int.reduceEq, Int.reduceBEq, Int.reduceBNe, aBox, aLoad, aStore, aPart, aPlace, aArrAddr, aArrIdx, aIdx, aLenStr, aConv, aFold, aMinMax, aEqV, aNilCheck, fillV, aEqBool, aEqInt, aEqStr, Nat.reduceAdd, Nat.reduceLeDiff, Nat.reduceMul, Int.reduceLT, Int.reduceLE, Int.reduceToNat, Int.reduceGT, Int.reduceGE, Int.reduceNeg, Int.reduceAdd, Int.reduceSub, wrap64, chkAdd, effAdd, AOp.kind, chkAll, chkSee, Nat.reduceLT, zP.down, zQ.down]
          refine ⟨_, _, rfl, ?_, ?_, ?_, ?_, kk3.bump⟩
          all_goals (simp -implicitDefEqProofs (disch := first | exact nbf rfl | exact nbt rfl | (simp only [ne_eq, reduceCtorEq, not_false_eq_true]; done) | omega | (simp -implicitDefEqProofs only [St.n_push, St.n_put, St.n_bump, List.length_set] <;> omega) | fail) only [e0, e2', e4', aCallv, aPtrEq, XOp.kind, AOp.run, AO.eval, put, reduceCtorEq, aInt, Nat.reduceEqDiff, initEnv, V.bool, V.i64, resultsOf, AR.get, aExtract, aUn, Int.reduceEq, Int.reduceBEq, Int.reduceBNe, aBox, aLoad, aStore, aPart, aPlace, aArrAddr, aArrIdx, aIdx, aLenStr, aConv, aFold, aMinMax, aEqV, aNilCheck, fillV, aEqBool, aEqInt, aEqStr, Nat.reduceAdd, Nat.reduceLeDiff, Nat.reduceMul, Int.reduceLT, Int.reduceLE, Int.reduceToNat, Int.reduceGT, Int.reduceGE, Int.reduceNeg, Int.reduceAdd, Int.reduceSub, wrap64, chkAdd, effAdd, AOp.kind, chkAll, chkSee, Nat.reduceLT, zP.down, zQ.down]; done)
      · have d2 : (rr.2 == 0) = false := by simp [c2]
        rw [if_neg (fun h => c2 h.1)]
        simp -implicitDefEqProofs (disch := first | exact nbf rfl | exact nbt rfl | (simp only [ne_eq, reduceCtorEq, not_false_eq_true]; done) | omega | (simp -implicitDefEqProofs only [St.n_push, St.n_put, St.n_bump, List.length_set] <;> omega) | fail) only [d2, aCallv, aPtrEq, XOp.kind, AOp.run, AO.eval, put, reduceCtorEq, aInt, Nat.reduceEqDiff, initEnv, V.bool, V.i64, resultsOf, AR.get, aExtract, aUn, Int.reduceEq, Int.reduceBEq, Int.reduceBNe, aBox, aLoad, aStore, aPart, aPlace, aArrAddr, aArrIdx, aIdx, aLenStr, aConv, aFold, aMinMax, aEqV, aNilCheck, fillV, aEqBool, aEqInt, aEqStr, Nat.reduceAdd, Nat.reduceLeDiff, Nat.reduceMul, Int.reduceLT, Int.reduceLE, Int.reduceToNat, Int.reduceGT, Int.reduceGE, Int.reduceNeg, Int.reduceAdd, Int.reduceSub, wrap64, chkAdd, effAdd, AOp.kind, chkAll, chkSee, Nat.reduceLT, zP.down, zQ.down]
        refine ⟨_, _, rfl, ?_, ?_, ?_, ?_, kb.bump.bump⟩
        all_goals (simp -implicitDefEqProofs (disch := first | exact nbf rfl | exact nbt rfl | (simp only [ne_eq, reduceCtorEq, not_false_eq_true]; done) | omega | (simp -implicitDefEqProofs only [St.n_push, St.n_put, St.n_bump, List.length_set] <;> omega) | fail) only [e0, e2', e4', aCallv, aPtrEq, XOp.kind, AOp.run, AO.eval, put, reduceCtorEq, aInt, Nat.reduceEqDiff, initEnv, V.bool, V.i64, resultsOf, AR.get, aExtract, aUn, Int.reduceEq, Int.reduceBEq, Int.reduceBNe, aBox, aLoad, aStore, aPart, aPlace, aArrAddr, aArrIdx, aIdx, aLenStr, aConv, aFold, aMinMax, aEqV, aNilCheck, fillV, aEqBool, aEqInt, aEqStr, Nat.reduceAdd, Nat.reduceLeDiff, Nat.reduceMul, Int.reduceLT, Int.reduceLE, Int.reduceToNat, Int.reduceGT, Int.reduceGE, Int.reduceNeg, Int.reduceAdd, Int.reduceSub, wrap64, chkAdd, effAdd, AOp.kind, chkAll, chkSee, Nat.reduceLT, zP.down, zQ.down]; done)
    · rintro _ ⟨ρ, σ2, rfl, e0, e2', e4', e10, k2⟩
      generalize (if rr.2 = 0 ∧ (sread rr.1).ok = true ∧ (sread rr.1).i = old.1.i ∧ (sread rr.1).t = old.1.t then 3 else 2 : Nat) = f at *
      unfold msw
      simp -implicitDefEqProofs (disch := first | exact nbf rfl | exact nbt rfl | (simp only [ne_eq, reduceCtorEq, not_false_eq_true]; done) | omega | (simp -implicitDefEqProofs only [St.n_push, St.n_put, St.n_bump, List.length_set] <;> omega) | fail) only [e0, e10, aCallv, aPtrEq, XOp.kind, AOp.run, AO.eval, put, reduceCtorEq, aInt, Nat.reduceEqDiff, initEnv, V.bool, V.i64, resultsOf, AR.get, aExtract, aUn, Int.reduceEq, Int.reduceBEq, Int.reduceBNe, aBox, aLoad, aStore, aPart, aPlace, aArrAddr, aArrIdx, aIdx, aLenStr, aConv, aFold, aMinMax, aEqV, aNilCheck, fillV, aEqBool, aEqInt, aEqStr, Nat.reduceAdd, Nat.reduceLeDiff, Nat.reduceMul, Int.reduceLT, Int.reduceLE, Int.reduceToNat, Int.reduceGT, Int.reduceGE, Int.reduceNeg, Int.reduceAdd, Int.reduceSub, wrap64, chkAdd, effAdd, AOp.kind, chkAll, chkSee, Nat.reduceLT, zP.down, zQ.down]
      repeat (first | refine w_fin ?_ | refine w_seq ?_ | refine w_block ?_ | refine w_reg ?_ | refine w_op ?_ | refine w_dop ?_)
      refine (hrm σ2 f (rest 0 _ k2)).mono ?_
      rintro ⟨_, σ3⟩ ⟨rfl, h3, k3⟩
      dsimp only at h3 k3
      have hm1 := hm.change (f := f) (c := ⟨3, [], 0⟩) (.inr (.inr rfl))
      have kk3 : Kept (· = d) σ σ3 := k2.any.trans k3
      generalize M.change f ⟨3, [], 0⟩ = r at *
      have go : r.2 = 0 ∨ r.2 = 4 → True := fun _ => trivial
      by_cases c1 : r.2 ≠ 0 ∧ r.2 ≠ 4
      · have d3 : (r.2 != 0) = true := by simp [c1.1]
        have d4 : (r.2 != 4) = true := by simp [c1.2]
        rw [if_pos c1]
        simp -implicitDefEqProofs (disch := first | exact nbf rfl | exact nbt rfl | (simp only [ne_eq, reduceCtorEq, not_false_eq_true]; done) | omega | (simp -implicitDefEqProofs only [St.n_push, St.n_put, St.n_bump, List.length_set] <;> omega) | fail) only [d3, d4, aCallv, aPtrEq, XOp.kind, AOp.run, AO.eval, put, reduceCtorEq, aInt, Nat.reduceEqDiff, initEnv, V.bool, V.i64, resultsOf, AR.get, aExtract, aUn, Int.reduceEq, Int.reduceBEq, Int.reduceBNe, aBox, aLoad, aStore, aPart, aPlace, aArrAddr, aArrIdx, aIdx, aLenStr, aConv, aFold, aMinMax, aEqV, aNilCheck, fillV, aEqBool, aEqInt, aEqStr, Nat.reduceAdd, Nat.reduceLeDiff, Nat.reduceMul, Int.reduceLT, Int.reduceLE, Int.reduceToNat, Int.reduceGT, Int.reduceGE, Int.reduceNeg, Int.reduceAdd, Int.reduceSub, wrap64, chkAdd, effAdd, AOp.kind, chkAll, chkSee, Nat.reduceLT, zP.down, zQ.down]
        exact ⟨h3, kk3⟩
      · rw [if_neg c1]
        have cnd : ∃ b, (r.2 != 0) = b ∧ (b = true → (r.2 != 4) = false) := by
          refine ⟨_, rfl, fun hb => ?_⟩
          simp only [bne_iff_ne, ne_eq] at hb
          by_cases h4 : r.2 = 4
          · simp [h4]
          · exact absurd ⟨hb, h4⟩ c1
        obtain ⟨b2, hc1, hc2⟩ := cnd
        simp -implicitDefEqProofs (disch := first | exact nbf rfl | exact nbt rfl | (simp only [ne_eq, reduceCtorEq, not_false_eq_true]; done) | omega | (simp -implicitDefEqProofs only [St.n_push, St.n_put, St.n_bump, List.length_set] <;> omega) | fail) only [hc1, aCallv, aPtrEq, XOp.kind, AOp.run, AO.eval, put, reduceCtorEq, aInt, Nat.reduceEqDiff, initEnv, V.bool, V.i64, resultsOf, AR.get, aExtract, aUn, Int.reduceEq, Int.reduceBEq, Int.reduceBNe, aBox, aLoad, aStore, aPart, aPlace, aArrAddr, aArrIdx, aIdx, aLenStr, aConv, aFold, aMinMax, aEqV, aNilCheck, fillV, aEqBool, aEqInt, aEqStr, Nat.reduceAdd, Nat.reduceLeDiff, Nat.reduceMul, Int.reduceLT, Int.reduceLE, Int.reduceToNat, Int.reduceGT, Int.reduceGE, Int.reduceNeg, Int.reduceAdd, Int.reduceSub, wrap64, chkAdd, effAdd, AOp.kind, chkAll, chkSee, Nat.reduceLT, zP.down, zQ.down]
        refine W.mono (Q := fun q => ∃ (ρ : Env), q = ((.normal : Ex), ρ, σ3) ∧ ρ 0 = .ptr d 0 ∧ ρ 2 = .str x ∧ ρ 4 = .agg [.sc (.int .i64 i), .sc (.int .i64 t)] ∧ ρ 10 = .sc (.int .i64 f)) ?_ ?_
        · cases b2 with
          | true =>
            have hc3 := hc2 rfl
            simp -implicitDefEqProofs (disch := first | exact nbf rfl | exact nbt rfl | (simp only [ne_eq, reduceCtorEq, not_false_eq_true]; done) | omega | (simp -implicitDefEqProofs only [St.n_push, St.n_put, St.n_bump, List.length_set] <;> omega) | fail) only [hc3, e0, e2', e4', e10, aCallv, aPtrEq, XOp.kind, AOp.run, AO.eval, put, reduceCtorEq, aInt, Nat.reduceEqDiff, initEnv, V.bool, V.i64, resultsOf, AR.get, aExtract, aUn, Int.reduceEq, Int.reduceBEq, Int.reduceBNe, aBox, aLoad, aStore, aPart, aPlace, aArrAddr, aArrIdx, aIdx, aLenStr, aConv, aFold, aMinMax, aEqV, aNilCheck, fillV, aEqBool, aEqInt, aEqStr, Nat.reduceAdd, Nat.reduceLeDiff, Nat.reduceMul, Int.reduceLT, Int.reduceLE, Int.reduceToNat, Int.reduceGT, Int.reduceGE, Int.reduceNeg, Int.reduceAdd, Int.reduceSub, wrap64, chkAdd, effAdd, AOp.kind, chkAll, chkSee, Nat.reduceLT, zP.down, zQ.down]
            refine ⟨_, rfl, ?_, ?_, ?_, ?_⟩
            all_goals (simp -implicitDefEqProofs (disch := first | exact nbf rfl | exact nbt rfl | (simp only [ne_eq, reduceCtorEq, not_false_eq_true]; done) | omega | (simp -implicitDefEqProofs only [St.n_push, St.n_put, St.n_bump, List.length_set] <;> omega) | fail) only [e0, e2', e4', e10, aCallv, aPtrEq, XOp.kind, AOp.run, AO.eval, put, reduceCtorEq, aInt, Nat.reduceEqDiff, initEnv, V.bool, V.i64, resultsOf, AR.get, aExtract, aUn, Int.reduceEq, Int.reduceBEq, Int.reduceBNe, aBox, aLoad, aStore, aPart, aPlace, aArrAddr, aArrIdx, aIdx, aLenStr, aConv, aFold, aMinMax, aEqV, aNilCheck, fillV, aEqBool, aEqInt, aEqStr, Nat.reduceAdd, Nat.reduceLeDiff, Nat.reduceMul, Int.reduceLT, Int.reduceLE, Int.reduceToNat, Int.reduceGT, Int.reduceGE, Int.reduceNeg, Int.reduceAdd, Int.reduceSub, wrap64, chkAdd, effAdd, AOp.kind, chkAll, chkSee, Nat.reduceLT, zP.down, zQ.down]; done)
          | false =>
            simp -implicitDefEqProofs (disch := first | exact nbf rfl | exact nbt rfl | (simp only [ne_eq, reduceCtorEq, not_false_eq_true]; done) | omega | (simp -implicitDefEqProofs only [St.n_push, St.n_put, St.n_bump, List.length_set] <;> omega) | fail) only [e0, e2', e4', e10, aCallv, aPtrEq, XOp.kind, AOp.run, AO.eval, put, reduceCtorEq, aInt, Nat.reduceEqDiff, initEnv, V.bool, V.i64, resultsOf, AR.get, aExtract, aUn, Int.reduceEq, Int.reduceBEq, Int.reduceBNe, aBox, aLoad, aStore, aPart, aPlace, aArrAddr, aArrIdx, aIdx, aLenStr, aConv, aFold, aMinMax, aEqV, aNilCheck, fillV, aEqBool, aEqInt, aEqStr, Nat.reduceAdd, Nat.reduceLeDiff, Nat.reduceMul, Int.reduceLT, Int.reduceLE, Int.reduceToNat, Int.reduceGT, Int.reduceGE, Int.reduceNeg, Int.reduceAdd, Int.reduceSub, wrap64, chkAdd, effAdd, AOp.kind, chkAll, chkSee, Nat.reduceLT, zP.down, zQ.down]
            refine ⟨_, rfl, ?_, ?_, ?_, ?_⟩
            all_goals (simp -implicitDefEqProofs (disch := first | exact nbf rfl | exact nbt rfl | (simp only [ne_eq, reduceCtorEq, not_false_eq_true]; done) | omega | (simp -implicitDefEqProofs only [St.n_push, St.n_put, St.n_bump, List.length_set] <;> omega) | fail) only [e0, e2', e4', e10, aCallv, aPtrEq, XOp.kind, AOp.run, AO.eval, put, reduceCtorEq, aInt, Nat.reduceEqDiff, initEnv, V.bool, V.i64, resultsOf, AR.get, aExtract, aUn, Int.reduceEq, Int.reduceBEq, Int.reduceBNe, aBox, aLoad, aStore, aPart, aPlace, aArrAddr, aArrIdx, aIdx, aLenStr, aConv, aFold, aMinMax, aEqV, aNilCheck, fillV, aEqBool, aEqInt, aEqStr, Nat.reduceAdd, Nat.reduceLeDiff, Nat.reduceMul, Int.reduceLT, Int.reduceLE, Int.reduceToNat, Int.reduceGT, Int.reduceGE, Int.reduceNeg, Int.reduceAdd, Int.reduceSub, wrap64, chkAdd, effAdd, AOp.kind, chkAll, chkSee, Nat.reduceLT, zP.down, zQ.down]; done)
        · rintro _ ⟨ρ, rfl, e0, e2', e4', e10⟩
          simp -implicitDefEqProofs (disch := first | exact nbf rfl | exact nbt rfl | (simp only [ne_eq, reduceCtorEq, not_false_eq_true]; done) | omega | (simp -implicitDefEqProofs only [St.n_push, St.n_put, St.n_bump, List.length_set] <;> omega) | fail) only [e0, e2', e4', e10, aCallv, aPtrEq, XOp.kind, AOp.run, AO.eval, put, reduceCtorEq, aInt, Nat.reduceEqDiff, initEnv, V.bool, V.i64, resultsOf, AR.get, aExtract, aUn, Int.reduceEq, Int.reduceBEq, Int.reduceBNe, aBox, aLoad, aStore, aPart, aPlace, aArrAddr, aArrIdx, aIdx, aLenStr, aConv, aFold, aMinMax, aEqV, aNilCheck, fillV, aEqBool, aEqInt, aEqStr, Nat.reduceAdd, Nat.reduceLeDiff, Nat.reduceMul, Int.reduceLT, Int.reduceLE, Int.reduceToNat, Int.reduceGT, Int.reduceGE, Int.reduceNeg, Int.reduceAdd, Int.reduceSub, wrap64, chkAdd, effAdd, AOp.kind, chkAll, chkSee, Nat.reduceLT, zP.down, zQ.down]
          repeat (first | refine w_fin ?_ | refine w_seq ?_ | refine w_block ?_ | refine w_reg ?_ | refine w_op ?_ | refine w_dop ?_)
          refine (hfl σ3 i t x (by omega) (by omega) (by omega)).mono ?_
          rintro ⟨_, σ4⟩ ⟨rfl, k4⟩
          dsimp only at k4
          have h4 := h3.kept k4 (fun h => h)
          simp -implicitDefEqProofs (disch := first | exact nbf rfl | exact nbt rfl | (simp only [ne_eq, reduceCtorEq, not_false_eq_true]; done) | omega | (simp -implicitDefEqProofs only [St.n_push, St.n_put, St.n_bump, List.length_set] <;> omega) | fail) only [e0, e10, aCallv, aPtrEq, XOp.kind, AOp.run, AO.eval, put, reduceCtorEq, aInt, Nat.reduceEqDiff, initEnv, V.bool, V.i64, resultsOf, AR.get, aExtract, aUn, Int.reduceEq, Int.reduceBEq, Int.reduceBNe, aBox, aLoad, aStore, aPart, aPlace, aArrAddr, aArrIdx, aIdx, aLenStr, aConv, aFold, aMinMax, aEqV, aNilCheck, fillV, aEqBool, aEqInt, aEqStr, Nat.reduceAdd, Nat.reduceLeDiff, Nat.reduceMul, Int.reduceLT, Int.reduceLE, Int.reduceToNat, Int.reduceGT, Int.reduceGE, Int.reduceNeg, Int.reduceAdd, Int.reduceSub, wrap64, chkAdd, effAdd, AOp.kind, chkAll, chkSee, Nat.reduceLT, zP.down, zQ.down]
          repeat (first | refine w_fin ?_ | refine w_seq ?_ | refine w_block ?_ | refine w_reg ?_ | refine w_op ?_ | refine w_dop ?_)
          refine (hap σ4 f (sfile i t x) r.1 h4 hm1).mono ?_
          rintro ⟨_, σ5⟩ ⟨rfl, h5, k5⟩
          dsimp only at h5 k5
          have hm2 := hm1.change (f := f) (c := ⟨1, sfile i t x, 0⟩) (.inl rfl)
          have kk5 : Kept (· = d) σ σ5 := (kk3.trans k4.any).trans k5
          generalize r.1.change f ⟨1, sfile i t x, 0⟩ = q at *
          by_cases c5 : q.2 = 0
          · have d5 : (q.2 != 0) = false := by simp [c5]
            rw [if_neg (by simp [c5])]
            simp -implicitDefEqProofs (disch := first | exact nbf rfl | exact nbt rfl | (simp only [ne_eq, reduceCtorEq, not_false_eq_true]; done) | omega | (simp -implicitDefEqProofs only [St.n_push, St.n_put, St.n_bump, List.length_set] <;> omega) | fail) only [e0, e10, d5, aCallv, aPtrEq, XOp.kind, AOp.run, AO.eval, put, reduceCtorEq, aInt, Nat.reduceEqDiff, initEnv, V.bool, V.i64, resultsOf, AR.get, aExtract, aUn, Int.reduceEq, Int.reduceBEq, Int.reduceBNe, aBox, aLoad, aStore, aPart, aPlace, aArrAddr, aArrIdx, aIdx, aLenStr, aConv, aFold, aMinMax, aEqV, aNilCheck, fillV, aEqBool, aEqInt, aEqStr, Nat.reduceAdd, Nat.reduceLeDiff, Nat.reduceMul, Int.reduceLT, Int.reduceLE, Int.reduceToNat, Int.reduceGT, Int.reduceGE, Int.reduceNeg, Int.reduceAdd, Int.reduceSub, wrap64, chkAdd, effAdd, AOp.kind, chkAll, chkSee, Nat.reduceLT, zP.down, zQ.down]
            repeat (first | refine w_fin ?_ | refine w_seq ?_ | refine w_block ?_ | refine w_reg ?_ | refine w_op ?_ | refine w_dop ?_)
            refine (hsy σ5 f q.1 h5 hm2).mono ?_
            rintro ⟨_, σ6⟩ ⟨rfl, h6, k6⟩
            simp -implicitDefEqProofs (disch := first | exact nbf rfl | exact nbt rfl | (simp only [ne_eq, reduceCtorEq, not_false_eq_true]; done) | omega | (simp -implicitDefEqProofs only [St.n_push, St.n_put, St.n_bump, List.length_set] <;> omega) | fail) only [aCallv, aPtrEq, XOp.kind, AOp.run, AO.eval, put, reduceCtorEq, aInt, Nat.reduceEqDiff, initEnv, V.bool, V.i64, resultsOf, AR.get, aExtract, aUn, Int.reduceEq, Int.reduceBEq, Int.reduceBNe, aBox, aLoad, aStore, aPart, aPlace, aArrAddr, aArrIdx, aIdx, aLenStr, aConv, aFold, aMinMax, aEqV, aNilCheck, fillV, aEqBool, aEqInt, aEqStr, Nat.reduceAdd, Nat.reduceLeDiff, Nat.reduceMul, Int.reduceLT, Int.reduceLE, Int.reduceToNat, Int.reduceGT, Int.reduceGE, Int.reduceNeg, Int.reduceAdd, Int.reduceSub, wrap64, chkAdd, effAdd, AOp.kind, chkAll, chkSee, Nat.reduceLT, zP.down, zQ.down]
            exact ⟨h6, kk5.trans k6⟩
          · have d5 : (q.2 != 0) = true := by simp [c5]
            rw [if_pos c5]
            simp -implicitDefEqProofs (disch := first | exact nbf rfl | exact nbt rfl | (simp only [ne_eq, reduceCtorEq, not_false_eq_true]; done) | omega | (simp -implicitDefEqProofs only [St.n_push, St.n_put, St.n_bump, List.length_set] <;> omega) | fail) only [d5, aCallv, aPtrEq, XOp.kind, AOp.run, AO.eval, put, reduceCtorEq, aInt, Nat.reduceEqDiff, initEnv, V.bool, V.i64, resultsOf, AR.get, aExtract, aUn, Int.reduceEq, Int.reduceBEq, Int.reduceBNe, aBox, aLoad, aStore, aPart, aPlace, aArrAddr, aArrIdx, aIdx, aLenStr, aConv, aFold, aMinMax, aEqV, aNilCheck, fillV, aEqBool, aEqInt, aEqStr, Nat.reduceAdd, Nat.reduceLeDiff, Nat.reduceMul, Int.reduceLT, Int.reduceLE, Int.reduceToNat, Int.reduceGT, Int.reduceGE, Int.reduceNeg, Int.reduceAdd, Int.reduceSub, wrap64, chkAdd, effAdd, AOp.kind, chkAll, chkSee, Nat.reduceLT, zP.down, zQ.down]
            exact ⟨h5, kk5⟩
end Go.Proofs.Ytjcobnjnjliehaa.sn
