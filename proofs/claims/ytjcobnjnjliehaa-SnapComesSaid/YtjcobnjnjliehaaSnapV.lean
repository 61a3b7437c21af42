/-
  SnapPieces: its run.
-/
import Derived.Test.YtjcobnjnjliehaaSnapI
import Derived.Test.YtjcobnjnjliehaaSnapW
import Derived.Test.YtjcobnjnjliehaaAbA
namespace Go.Proofs.Ytjcobnjnjliehaa.sn
open Go.Ab
set_option maxRecDepth 100000
set_option maxHeartbeats 8000000
set_option linter.unusedSimpArgs false
set_option linter.unusedVariables false

structure Msgs (x : V) (l : List Ms) : Prop where
  rv : RV 22 x (l.map mc)
  en : ∀ m ∈ l, Cell1 m.en
  len : l.length ≤ 9223372036854775807
abbrev msT : Ty := .agg [.int .u8, .int .i64, .int .i64, .int .i64, .int .i64, .int .i64, .int .i64, .int .i64, .bool, .sl (.agg [.int .i64, .str]), .int .i64, .int .i64, .str, .int .i64, .agg [.int .i64, .int .i64], .int .i64, .int .i64, .int .i64, .int .u8, .int .i64, .int .i64]
theorem msgs_of {x : V} (h : ArgA (.sl msT) x) : ∃ l, Msgs x l := by
  obtain ⟨es, h1, h2, h3, h4⟩ := rv_slA h
  have : ∃ l : List Ms, es = l.map mc ∧ ∀ m ∈ l, Cell1 m.en := by
    clear h h1 h3 h4
    induction es with
    | nil => exact ⟨[], rfl, by simp⟩
    | cons e es ih =>
      obtain ⟨l, rfl, h6⟩ := ih fun a ha => h2 a (List.mem_cons_of_mem _ ha)
      have h := h2 e List.mem_cons_self
      simp only [Arg, ArgL] at h
      obtain ⟨a0, b0, rfl, ⟨n0, rfl, w0⟩, ⟨a1, b1, rfl, ⟨n1, rfl, w1⟩, ⟨a2, b2, rfl, ⟨n2, rfl, w2⟩, ⟨a3, b3, rfl, ⟨n3, rfl, w3⟩, ⟨a4, b4, rfl, ⟨n4, rfl, w4⟩, ⟨a5, b5, rfl, ⟨n5, rfl, w5⟩, ⟨a6, b6, rfl, ⟨n6, rfl, w6⟩, ⟨a7, b7, rfl, ⟨n7, rfl, w7⟩, ⟨a8, b8, rfl, ⟨n8, rfl⟩, ⟨a9, b9, rfl, hs, ⟨a10, b10, rfl, ⟨n10, rfl, w10⟩, ⟨a11, b11, rfl, ⟨n11, rfl, w11⟩, ⟨a12, b12, rfl, ⟨n12, rfl, w12⟩, ⟨a13, b13, rfl, ⟨n13, rfl, w13⟩, ⟨a14, b14, rfl, ⟨c1, d1, rfl, ⟨p1, rfl, wp1⟩, ⟨c2, d2, rfl, ⟨p2, rfl, wp2⟩, rfl⟩⟩, ⟨a15, b15, rfl, ⟨n15, rfl, w15⟩, ⟨a16, b16, rfl, ⟨n16, rfl, w16⟩, ⟨a17, b17, rfl, ⟨n17, rfl, w17⟩, ⟨a18, b18, rfl, ⟨n18, rfl, w18⟩, ⟨a19, b19, rfl, ⟨n19, rfl, w19⟩, ⟨a20, b20, rfl, ⟨n20, rfl, w20⟩, rfl⟩⟩⟩⟩⟩⟩⟩⟩⟩⟩⟩⟩⟩⟩⟩⟩⟩⟩⟩⟩⟩ := h
      have h5 : ∃ v, a9 = [v] ∧ Cell1 v := by
        rcases hs with rfl | ⟨a, rfl⟩ | ⟨es, q1, rfl, q2⟩ <;> exact ⟨_, rfl, rfl, rfl⟩
      obtain ⟨v, rfl, hv⟩ := h5
      refine ⟨⟨n0, n1, n2, n3, n4, n5, n6, n7, n8, v, n10, n11, n12, n13, p1, p2, n15, n16, n17, n18, n19, n20⟩ :: l, rfl, fun p hp => ?_⟩
      rcases List.mem_cons.1 hp with rfl | hp
      · exact hv
      · exact h6 p hp
  obtain ⟨l, rfl, h6⟩ := this
  exact ⟨l, h1, h6, by simpa [maxLen] using h3⟩

/-- A piece. -/
def pc (t : List UInt8) (i : Nat) : List UInt8 := (t.drop i).take (min (i + 2048) t.length - i)
theorem pcm {i n : Nat} : (if (n : Int) < (i : Int) + 2048 then (n : Int) else (i : Int) + 2048) = ((min (i + 2048) n : Nat) : Int) := by split <;> omega
theorem piece_ok (k : Nat) (ys : YlF) (σ : St) (t : List UInt8) (i : Nat) (h1 : i ≤ t.length) (ht : t.length ≤ 140737488355328) :
    callY Tab.tb (k + 1) ys 9 [.str t, .sc (.int .i64 i)] σ = some (.tup [.str (pc t i), .sc (.int .i64 0)], σ) := by
  rw [s_call (af := Tab.b9) rfl (Nat.le_of_ble_eq_true rfl)]
  generalize callY Tab.tb k = cy
  have d1 : decide ((i : Int) < 0) = false := by simp
  have d2 : decide ((i : Int) > (t.length : Int)) = false := by simp; omega
  have w1 : IntKind.i64.wrap ((i : Int) + 2048) = (i : Int) + 2048 := wrap64 (by omega) (by omega)
  have hs := str_sl (s := t) (l := i) (h := min (i + 2048) t.length) (by omega) (by omega)
  simp -implicitDefEqProofs (disch := first | exact nbf rfl | exact nbt rfl | (simp only [ne_eq, reduceCtorEq, not_false_eq_true]; done) | omega | (simp -implicitDefEqProofs only [St.n_push, St.n_put, St.n_bump, List.length_set] <;> omega) | fail) only [Tab.b9, d1, d2, w1, pcm, hs, pc, aCallv, aPtrEq, XOp.kind, AOp.run, AO.eval, put, reduceCtorEq, aInt, Nat.reduceEqDiff, initEnv, V.bool, V.i64, resultsOf, AR.get, aExtract, aUn, Int.reduceEq, Int.reduceBEq, Int.reduceBNe, aBox, aLoad, aStore, aPart, aPlace, aArrAddr, aArrIdx, aIdx, aLenStr, aConv, aFold, aMinMax, aEqV, aNilCheck, fillV, aEqBool, aEqInt, aEqStr, Nat.reduceAdd, Nat.reduceLeDiff, Nat.reduceMul, Int.reduceLT, Int.reduceLE, Int.reduceToNat, Int.reduceGT, Int.reduceGE, Int.reduceNeg, Int.reduceAdd, Int.reduceSub, wrap64, chkAdd, effAdd, AOp.kind, chkAll, chkSee, Nat.reduceLT, zP.down, zQ.down]

theorem pieceb_ok (k : Nat) (ys : YlF) (σ : St) (t : List UInt8) (a : Int) (h : a < 0 ∨ a > t.length) :
    callY Tab.tb (k + 1) ys 9 [.str t, .sc (.int .i64 a)] σ = some (.tup [.str [], .sc (.int .i64 5)], σ) := by
  rw [s_call (af := Tab.b9) rfl (Nat.le_of_ble_eq_true rfl)]
  generalize callY Tab.tb k = cy
  by_cases c : a < 0
  · have d1 : decide (a < 0) = true := by simpa using c
    simp -implicitDefEqProofs (disch := first | exact nbf rfl | exact nbt rfl | (simp only [ne_eq, reduceCtorEq, not_false_eq_true]; done) | omega | (simp -implicitDefEqProofs only [St.n_push, St.n_put, St.n_bump, List.length_set] <;> omega) | fail) only [Tab.b9, d1, aCallv, aPtrEq, XOp.kind, AOp.run, AO.eval, put, reduceCtorEq, aInt, Nat.reduceEqDiff, initEnv, V.bool, V.i64, resultsOf, AR.get, aExtract, aUn, Int.reduceEq, Int.reduceBEq, Int.reduceBNe, aBox, aLoad, aStore, aPart, aPlace, aArrAddr, aArrIdx, aIdx, aLenStr, aConv, aFold, aMinMax, aEqV, aNilCheck, fillV, aEqBool, aEqInt, aEqStr, Nat.reduceAdd, Nat.reduceLeDiff, Nat.reduceMul, Int.reduceLT, Int.reduceLE, Int.reduceToNat, Int.reduceGT, Int.reduceGE, Int.reduceNeg, Int.reduceAdd, Int.reduceSub, wrap64, chkAdd, effAdd, AOp.kind, chkAll, chkSee, Nat.reduceLT, zP.down, zQ.down]
  · have d1 : decide (a < 0) = false := by simpa using c
    have d2 : decide (a > (t.length : Int)) = true := by simp; omega
    simp -implicitDefEqProofs (disch := first | exact nbf rfl | exact nbt rfl | (simp only [ne_eq, reduceCtorEq, not_false_eq_true]; done) | omega | (simp -implicitDefEqProofs only [St.n_push, St.n_put, St.n_bump, List.length_set] <;> omega) | fail) only [Tab.b9, d1, d2, aCallv, aPtrEq, XOp.kind, AOp.run, AO.eval, put, reduceCtorEq, aInt, Nat.reduceEqDiff, initEnv, V.bool, V.i64, resultsOf, AR.get, aExtract, aUn, Int.reduceEq, Int.reduceBEq, Int.reduceBNe, aBox, aLoad, aStore, aPart, aPlace, aArrAddr, aArrIdx, aIdx, aLenStr, aConv, aFold, aMinMax, aEqV, aNilCheck, fillV, aEqBool, aEqInt, aEqStr, Nat.reduceAdd, Nat.reduceLeDiff, Nat.reduceMul, Int.reduceLT, Int.reduceLE, Int.reduceToNat, Int.reduceGT, Int.reduceGE, Int.reduceNeg, Int.reduceAdd, Int.reduceSub, wrap64, chkAdd, effAdd, AOp.kind, chkAll, chkSee, Nat.reduceLT, zP.down, zQ.down]
end Go.Proofs.Ytjcobnjnjliehaa.sn

