/-
  Ballots: scripts.
  VoteOnce: its run.
-/
import Derived.Test.YtllkidpebjgkeaaVoteK
namespace Go.Proofs.Ytllkidpebjgkeaa.vt
open Go.Ab fr dk
set_option maxRecDepth 100000
set_option maxHeartbeats 8000000
set_option linter.unusedSimpArgs false
set_option linter.unusedVariables false

/-- A call of a script. -/
structure Stp where
  k : Int
  n : Int
  t : Int
  w : Int
  s : List UInt8
  kv : V
  ks : List Int
def stc (p : Stp) : List V := [.sc (.int .i64 p.k), .sc (.int .i64 p.n), .sc (.int .i64 p.t), .sc (.int .i64 p.w), .str p.s, p.kv]
structure Stp.Ok (p : Stp) : Prop where
  kv : RV 1 p.kv (p.ks.map kc)
  kl : p.ks.length * 8 ≤ 140737488351232
  k : -9223372036854775808 ≤ p.k ∧ p.k ≤ 9223372036854775807
  n : -9223372036854775808 ≤ p.n ∧ p.n ≤ 9223372036854775807
  t : -9223372036854775808 ≤ p.t ∧ p.t ≤ 9223372036854775807
  w : -9223372036854775808 ≤ p.w ∧ p.w ≤ 9223372036854775807
structure Scr (x : V) (l : List Stp) : Prop where
  rv : RV 6 x (l.map stc)
  ok : ∀ p ∈ l, p.Ok
  len : l.length ≤ 9223372036854775807
abbrev stT : Ty := .agg [.int .i64, .int .i64, .agg [.int .i64, .int .i64], .str, .sl (.int .i64)]
theorem scr_of {x : V} (h : ArgA (.sl stT) x) : ∃ l, Scr x l := by
  obtain ⟨es, h1, h2, h3, h4⟩ := rv_slA h
  have : ∃ l : List Stp, es = l.map stc ∧ ∀ p ∈ l, p.Ok := by
    clear h h1 h3 h4
    induction es with
    | nil => exact ⟨[], rfl, by simp⟩
    | cons e es ih =>
      obtain ⟨l, rfl, h6⟩ := ih fun a ha => h2 a (List.mem_cons_of_mem _ ha)
      have h := h2 e List.mem_cons_self
      simp only [Arg, ArgL] at h
      obtain ⟨a1, b1, rfl, ⟨n1, rfl, w1⟩, ⟨a2, b2, rfl, ⟨n2, rfl, w2⟩, ⟨a3, b3, rfl, ⟨a7, b7, rfl, ⟨n3, rfl, w3⟩, ⟨a8, b8, rfl, ⟨n5, rfl, w5⟩, rfl⟩⟩, ⟨a4, b4, rfl, ⟨n4, rfl, w4⟩, ⟨a5, b5, rfl, hs, rfl⟩⟩⟩⟩⟩ := h
      have h5 : ∃ v, a5 = [v] ∧ Arg (.sl (.int .i64)) [v] := by
        rcases hs with rfl | ⟨a, rfl⟩ | ⟨es, q1, rfl, q2⟩
        · exact ⟨_, rfl, by simp [Arg]⟩
        · exact ⟨_, rfl, by simp [Arg]⟩
        · exact ⟨_, rfl, by simp only [Arg]; exact .inr (.inr ⟨es, q1, rfl, q2⟩)⟩
      obtain ⟨v, rfl, hv⟩ := h5
      obtain ⟨es', q1, q2, _, q4⟩ := rv_sl hv
      obtain ⟨ks, rfl⟩ := ints_of q2
      have q5 : ks.length * 8 ≤ 140737488351232 := by simpa [Ty.low, IntKind.bits, reachBytes] using q4
      refine ⟨⟨n1, n2, n3, n5, n4, v, ks⟩ :: l, rfl, fun p hp => ?_⟩
      rcases List.mem_cons.1 hp with rfl | hp
      · exact ⟨q1, q5, wf64 w1, wf64 w2, wf64 w3, wf64 w5⟩
      · exact h6 p hp
  obtain ⟨l, rfl, h6⟩ := this
  refine ⟨l, h1, h6, by simpa [maxLen] using h3⟩

theorem Scr.at {x : V} {l : List Stp} (h : Scr x l) {i : Nat} (hi : i < l.length) : aSlAddr x (.sc (.int .i64 i)) = some (.elt (l.map stc).flatten (i * 6)) ∧ (i * 6 + 6 ≤ (l.map stc).flatten.length) = True ∧ ((l.map stc).flatten.drop (i * 6)).take 6 = stc l[i] := by
  have := h.rv.at (i := i) (by simpa using hi)
  simpa using this

theorem heavy_ok (k : Nat) (ys : YlF) (σ : St) (x : V) (l : List Stp) (h : Scr x l) (hk : 9223372036854775808 ≤ k) :
    W (callY Tab.tb (k + 1) ys 17 [x] σ) fun r => ∃ b, r.1 = .sc (.bool b) ∧ Kept noX σ r.2 ∧ (b = false → l.length ≤ 100 ∧ ∀ p ∈ l, p.s.length ≤ 4096) := by
  rw [s_call (af := Tab.b17) rfl (Nat.le_of_ble_eq_true rfl)]
  have hlen := h.rv.len
  rw [List.length_map] at hlen
  have hsize := h.rv.size
  have hl2 := h.len
  generalize callY Tab.tb k = cy
  simp -implicitDefEqProofs (disch := first | exact nbf rfl | exact nbt rfl | (simp only [ne_eq, reduceCtorEq, not_false_eq_true]; done) | omega | (simp -implicitDefEqProofs only [St.n_push, St.n_put, St.n_bump, List.length_set] <;> omega) | fail) only [Tab.b17, hlen, aCallv, aPtrEq, XOp.kind, AOp.run, AO.eval, put, reduceCtorEq, aInt, Nat.reduceEqDiff, initEnv, V.bool, V.i64, resultsOf, AR.get, aExtract, aUn, Int.reduceEq, Int.reduceBEq, Int.reduceBNe, aBox, aLoad, aStore, aPart, aPlace, aArrAddr, aArrIdx, aIdx, aLenStr, aConv, aFold, aMinMax, aEqV, aNilCheck, fillV, aEqBool, aEqInt, aEqStr, Nat.reduceAdd, Nat.reduceLeDiff, Nat.reduceMul, Int.reduceLT, Int.reduceLE, Int.reduceToNat, Int.reduceGT, Int.reduceGE, Int.reduceNeg, Int.reduceAdd, Int.reduceSub, wrap64, chkAdd, effAdd, AOp.kind, chkAll, chkSee, Nat.reduceLT, zP.down, zQ.down]
  repeat (first | refine w_fin ?_ | refine w_seq ?_ | refine w_block ?_ | refine w_reg ?_ | refine w_op ?_ | refine w_dop ?_)
  refine W.mono (Q := fun r => (∃ (ρ : Env) (σ' : St), r = ((.ret : Ex), ρ, σ') ∧ ρ 2 = .sc (.bool true) ∧ Kept noX σ σ') ∨ (∃ (ρ : Env) (σ' : St), r = ((.exit 0 : Ex), ρ, σ') ∧ ρ 0 = x ∧ (∀ p ∈ l, p.s.length ≤ 4096) ∧ Kept noX σ σ')) ?_ ?_
  · refine w_loop (fun m ρ σ' => ∃ (i n : Nat), m = l.length - i ∧ i ≤ l.length ∧ n ≤ 4096 ∧ ρ 0 = x ∧ ρ 6 = x ∧ ρ 7 = .sc (.int .i64 l.length) ∧ ρ 3 = .sc (.int .i64 n) ∧ ρ 8 = .sc (.int .i64 i) ∧ (∀ p ∈ l.take i, p.s.length ≤ 4096) ∧ Kept noX σ σ') l.length (by omega) ?_ ?_
    · refine ⟨0, 0, rfl, Nat.zero_le _, by omega, ?_, ?_, ?_, ?_, ?_, by simp, Kept.refl _ _⟩
      all_goals first | rfl | (simp -implicitDefEqProofs (disch := first | exact nbf rfl | exact nbt rfl | (simp only [ne_eq, reduceCtorEq, not_false_eq_true]; done) | omega | (simp -implicitDefEqProofs only [St.n_push, St.n_put, St.n_bump, List.length_set] <;> omega) | fail) only [aCallv, aPtrEq, XOp.kind, AOp.run, AO.eval, put, reduceCtorEq, aInt, Nat.reduceEqDiff, initEnv, V.bool, V.i64, resultsOf, AR.get, aExtract, aUn, Int.reduceEq, Int.reduceBEq, Int.reduceBNe, aBox, aLoad, aStore, aPart, aPlace, aArrAddr, aArrIdx, aIdx, aLenStr, aConv, aFold, aMinMax, aEqV, aNilCheck, fillV, aEqBool, aEqInt, aEqStr, Nat.reduceAdd, Nat.reduceLeDiff, Nat.reduceMul, Int.reduceLT, Int.reduceLE, Int.reduceToNat, Int.reduceGT, Int.reduceGE, Int.reduceNeg, Int.reduceAdd, Int.reduceSub, wrap64, chkAdd, effAdd, AOp.kind, chkAll, chkSee, Nat.reduceLT, zP.down, zQ.down]; done) | (simp -implicitDefEqProofs (disch := first | exact nbf rfl | exact nbt rfl | (simp only [ne_eq, reduceCtorEq, not_false_eq_true]; done) | omega | (simp -implicitDefEqProofs only [St.n_push, St.n_put, St.n_bump, List.length_set] <;> omega) | fail) only [aCallv, aPtrEq, XOp.kind, AOp.run, AO.eval, put, reduceCtorEq, aInt, Nat.reduceEqDiff, initEnv, V.bool, V.i64, resultsOf, AR.get, aExtract, aUn, Int.reduceEq, Int.reduceBEq, Int.reduceBNe, aBox, aLoad, aStore, aPart, aPlace, aArrAddr, aArrIdx, aIdx, aLenStr, aConv, aFold, aMinMax, aEqV, aNilCheck, fillV, aEqBool, aEqInt, aEqStr, Nat.reduceAdd, Nat.reduceLeDiff, Nat.reduceMul, Int.reduceLT, Int.reduceLE, Int.reduceToNat, Int.reduceGT, Int.reduceGE, Int.reduceNeg, Int.reduceAdd, Int.reduceSub, wrap64, chkAdd, effAdd, AOp.kind, chkAll, chkSee, Nat.reduceLT, zP.down, zQ.down]; rfl)
    · rintro m ρ σ' ⟨i, n, hm, hi, hn, e0, e6, e7, e3, e8, hp, hkept⟩
      by_cases hl : i < l.length
      · have c1 : decide ((i : Int) < (l.length : Int)) = true := by simpa using hl
        obtain ⟨a1, a2, a3⟩ := h.at hl
        simp only [stc] at a3
        have hcell := (h.ok _ (List.getElem_mem hl)).kv.cell
        have w1 : IntKind.i64.wrap (4096 - (n : Int)) = 4096 - (n : Int) := wrap64 (by omega) (by omega)
        have w2 : IntKind.i64.wrap ((i : Int) + 1) = (i : Int) + 1 := wrap64 (by omega) (by omega)
        by_cases hg : (l[i].s.length : Int) > 4096 - (n : Int)
        · have c2 : decide ((l[i].s.length : Int) > 4096 - (n : Int)) = true := by simpa using hg
          simp -implicitDefEqProofs (disch := first | exact nbf rfl | exact nbt rfl | (simp only [ne_eq, reduceCtorEq, not_false_eq_true]; done) | omega | (simp -implicitDefEqProofs only [St.n_push, St.n_put, St.n_bump, List.length_set] <;> omega) | fail) only [c1, e0, e6, e7, e3, e8, a1, a2, a3, hsize, hcell.1, hcell.2, w1, c2, aCallv, aPtrEq, XOp.kind, AOp.run, AO.eval, put, reduceCtorEq, aInt, Nat.reduceEqDiff, initEnv, V.bool, V.i64, resultsOf, AR.get, aExtract, aUn, Int.reduceEq, Int.reduceBEq, Int.reduceBNe, aBox, aLoad, aStore, aPart, aPlace, aArrAddr, aArrIdx, aIdx, aLenStr, aConv, aFold, aMinMax, aEqV, aNilCheck, fillV, aEqBool, aEqInt, aEqStr, Nat.reduceAdd, Nat.reduceLeDiff, Nat.reduceMul, Int.reduceLT, Int.reduceLE, Int.reduceToNat, Int.reduceGT, Int.reduceGE, Int.reduceNeg, Int.reduceAdd, Int.reduceSub, wrap64, chkAdd, effAdd, AOp.kind, chkAll, chkSee, Nat.reduceLT, zP.down, zQ.down]
          left
          refine ⟨_, _, rfl, ?_, hkept.bump⟩
          simp -implicitDefEqProofs (disch := first | exact nbf rfl | exact nbt rfl | (simp only [ne_eq, reduceCtorEq, not_false_eq_true]; done) | omega | (simp -implicitDefEqProofs only [St.n_push, St.n_put, St.n_bump, List.length_set] <;> omega) | fail) only [aCallv, aPtrEq, XOp.kind, AOp.run, AO.eval, put, reduceCtorEq, aInt, Nat.reduceEqDiff, initEnv, V.bool, V.i64, resultsOf, AR.get, aExtract, aUn, Int.reduceEq, Int.reduceBEq, Int.reduceBNe, aBox, aLoad, aStore, aPart, aPlace, aArrAddr, aArrIdx, aIdx, aLenStr, aConv, aFold, aMinMax, aEqV, aNilCheck, fillV, aEqBool, aEqInt, aEqStr, Nat.reduceAdd, Nat.reduceLeDiff, Nat.reduceMul, Int.reduceLT, Int.reduceLE, Int.reduceToNat, Int.reduceGT, Int.reduceGE, Int.reduceNeg, Int.reduceAdd, Int.reduceSub, wrap64, chkAdd, effAdd, AOp.kind, chkAll, chkSee, Nat.reduceLT, zP.down, zQ.down]
        · have c2 : decide ((l[i].s.length : Int) > 4096 - (n : Int)) = false := by simpa using hg
          have w3 : IntKind.i64.wrap ((n : Int) + (l[i].s.length : Int)) = (n : Int) + (l[i].s.length : Int) := wrap64 (by omega) (by omega)
          simp -implicitDefEqProofs (disch := first | exact nbf rfl | exact nbt rfl | (simp only [ne_eq, reduceCtorEq, not_false_eq_true]; done) | omega | (simp -implicitDefEqProofs only [St.n_push, St.n_put, St.n_bump, List.length_set] <;> omega) | fail) only [c1, e0, e6, e7, e3, e8, a1, a2, a3, hsize, hcell.1, hcell.2, w1, w2, w3, c2, aCallv, aPtrEq, XOp.kind, AOp.run, AO.eval, put, reduceCtorEq, aInt, Nat.reduceEqDiff, initEnv, V.bool, V.i64, resultsOf, AR.get, aExtract, aUn, Int.reduceEq, Int.reduceBEq, Int.reduceBNe, aBox, aLoad, aStore, aPart, aPlace, aArrAddr, aArrIdx, aIdx, aLenStr, aConv, aFold, aMinMax, aEqV, aNilCheck, fillV, aEqBool, aEqInt, aEqStr, Nat.reduceAdd, Nat.reduceLeDiff, Nat.reduceMul, Int.reduceLT, Int.reduceLE, Int.reduceToNat, Int.reduceGT, Int.reduceGE, Int.reduceNeg, Int.reduceAdd, Int.reduceSub, wrap64, chkAdd, effAdd, AOp.kind, chkAll, chkSee, Nat.reduceLT, zP.down, zQ.down]
          refine ⟨l.length - (i + 1), by omega, i + 1, n + l[i].s.length, rfl, hl, by omega, by simp, by simp, fun p hp' => ?_, hkept.bump⟩
          rw [List.take_add_one, List.getElem?_eq_getElem hl] at hp'
          rcases List.mem_append.1 hp' with h1 | h1
          · exact hp p h1
          · simp at h1; subst h1; omega
      · have c1 : decide ((i : Int) < (l.length : Int)) = false := by simpa using hl
        have : i = l.length := by omega
        subst this
        rw [List.take_length] at hp
        simp -implicitDefEqProofs (disch := first | exact nbf rfl | exact nbt rfl | (simp only [ne_eq, reduceCtorEq, not_false_eq_true]; done) | omega | (simp -implicitDefEqProofs only [St.n_push, St.n_put, St.n_bump, List.length_set] <;> omega) | fail) only [c1, e0, e6, e7, e8, aCallv, aPtrEq, XOp.kind, AOp.run, AO.eval, put, reduceCtorEq, aInt, Nat.reduceEqDiff, initEnv, V.bool, V.i64, resultsOf, AR.get, aExtract, aUn, Int.reduceEq, Int.reduceBEq, Int.reduceBNe, aBox, aLoad, aStore, aPart, aPlace, aArrAddr, aArrIdx, aIdx, aLenStr, aConv, aFold, aMinMax, aEqV, aNilCheck, fillV, aEqBool, aEqInt, aEqStr, Nat.reduceAdd, Nat.reduceLeDiff, Nat.reduceMul, Int.reduceLT, Int.reduceLE, Int.reduceToNat, Int.reduceGT, Int.reduceGE, Int.reduceNeg, Int.reduceAdd, Int.reduceSub, wrap64, chkAdd, effAdd, AOp.kind, chkAll, chkSee, Nat.reduceLT, zP.down, zQ.down]
        right
        refine ⟨_, _, rfl, ?_, hp, hkept⟩
        simp -implicitDefEqProofs (disch := first | exact nbf rfl | exact nbt rfl | (simp only [ne_eq, reduceCtorEq, not_false_eq_true]; done) | omega | (simp -implicitDefEqProofs only [St.n_push, St.n_put, St.n_bump, List.length_set] <;> omega) | fail) only [e0, aCallv, aPtrEq, XOp.kind, AOp.run, AO.eval, put, reduceCtorEq, aInt, Nat.reduceEqDiff, initEnv, V.bool, V.i64, resultsOf, AR.get, aExtract, aUn, Int.reduceEq, Int.reduceBEq, Int.reduceBNe, aBox, aLoad, aStore, aPart, aPlace, aArrAddr, aArrIdx, aIdx, aLenStr, aConv, aFold, aMinMax, aEqV, aNilCheck, fillV, aEqBool, aEqInt, aEqStr, Nat.reduceAdd, Nat.reduceLeDiff, Nat.reduceMul, Int.reduceLT, Int.reduceLE, Int.reduceToNat, Int.reduceGT, Int.reduceGE, Int.reduceNeg, Int.reduceAdd, Int.reduceSub, wrap64, chkAdd, effAdd, AOp.kind, chkAll, chkSee, Nat.reduceLT, zP.down, zQ.down]
  · rintro _ (⟨ρ, σ', rfl, e2, hkept⟩ | ⟨ρ, σ', rfl, e0, hp, hkept⟩)
    · simp -implicitDefEqProofs (disch := first | exact nbf rfl | exact nbt rfl | (simp only [ne_eq, reduceCtorEq, not_false_eq_true]; done) | omega | (simp -implicitDefEqProofs only [St.n_push, St.n_put, St.n_bump, List.length_set] <;> omega) | fail) only [e2, aCallv, aPtrEq, XOp.kind, AOp.run, AO.eval, put, reduceCtorEq, aInt, Nat.reduceEqDiff, initEnv, V.bool, V.i64, resultsOf, AR.get, aExtract, aUn, Int.reduceEq, Int.reduceBEq, Int.reduceBNe, aBox, aLoad, aStore, aPart, aPlace, aArrAddr, aArrIdx, aIdx, aLenStr, aConv, aFold, aMinMax, aEqV, aNilCheck, fillV, aEqBool, aEqInt, aEqStr, Nat.reduceAdd, Nat.reduceLeDiff, Nat.reduceMul, Int.reduceLT, Int.reduceLE, Int.reduceToNat, Int.reduceGT, Int.reduceGE, Int.reduceNeg, Int.reduceAdd, Int.reduceSub, wrap64, chkAdd, effAdd, AOp.kind, chkAll, chkSee, Nat.reduceLT, zP.down, zQ.down]
      exact ⟨true, rfl, hkept, fun h => by cases h⟩
    · simp -implicitDefEqProofs (disch := first | exact nbf rfl | exact nbt rfl | (simp only [ne_eq, reduceCtorEq, not_false_eq_true]; done) | omega | (simp -implicitDefEqProofs only [St.n_push, St.n_put, St.n_bump, List.length_set] <;> omega) | fail) only [e0, hlen, aCallv, aPtrEq, XOp.kind, AOp.run, AO.eval, put, reduceCtorEq, aInt, Nat.reduceEqDiff, initEnv, V.bool, V.i64, resultsOf, AR.get, aExtract, aUn, Int.reduceEq, Int.reduceBEq, Int.reduceBNe, aBox, aLoad, aStore, aPart, aPlace, aArrAddr, aArrIdx, aIdx, aLenStr, aConv, aFold, aMinMax, aEqV, aNilCheck, fillV, aEqBool, aEqInt, aEqStr, Nat.reduceAdd, Nat.reduceLeDiff, Nat.reduceMul, Int.reduceLT, Int.reduceLE, Int.reduceToNat, Int.reduceGT, Int.reduceGE, Int.reduceNeg, Int.reduceAdd, Int.reduceSub, wrap64, chkAdd, effAdd, AOp.kind, chkAll, chkSee, Nat.reduceLT, zP.down, zQ.down]
      refine ⟨_, rfl, hkept, fun hb => ⟨?_, hp⟩⟩
      simp only [decide_eq_false_iff_not] at hb
      omega

/-! ## A map of numbers -/
abbrev En := Int × Int × Nat
def en (e : En) : V × V × Nat := (.sc (.int .i64 e.1), .sc (.int .i64 e.2.1), e.2.2)
theorem find_en (σ : St) (t : Int) : ∀ (l : List En) (j : Nat), aFind σ (.int .i64) (.sc (.int .i64 t)) (l.map en) j = some ((l.zipIdx j).find? (fun e => e.1.1 = t) |>.map fun e => (e.2, .sc (.int .i64 e.1.1), .sc (.int .i64 e.1.2.1))) := by
  intro l
  induction l with
  | nil => intro j; rfl
  | cons e l ih =>
    intro j
    have he : aEqV σ (.int .i64) (.sc (.int .i64 t)) (en e).1 = some (t == e.1) := by simp [aEqV, en, aEqInt]
    rw [List.map_cons, aFind, he]
    simp only [Option.bind_some, List.zipIdx_cons, List.find?_cons]
    by_cases c : e.1 = t
    · simp [c, en]
    · have c' : (t == e.1) = false := by simp; exact fun h => c h.symm
      simp only [c', c, decide_false, Bool.false_eq_true, if_false]
      exact ih (j + 1)
/-- What is told of a number: nothing, or an entry's. -/
theorem find_cases (σ : St) (t : Int) (l : List En) : aFind σ (.int .i64) (.sc (.int .i64 t)) (l.map en) 0 = some none ∨ ∃ e i, e ∈ l ∧ e.1 = t ∧ aFind σ (.int .i64) (.sc (.int .i64 t)) (l.map en) 0 = some (some (i, .sc (.int .i64 t), .sc (.int .i64 e.2.1))) := by
  rw [find_en]
  cases h : (l.zipIdx 0).find? (fun e => e.1.1 = t) with
  | none => left; rfl
  | some e =>
    right
    have h1 := List.mem_of_find?_eq_some h
    have h2 := List.find?_some h
    simp only [decide_eq_true_eq] at h2
    obtain ⟨e, i⟩ := e
    refine ⟨e, i, ?_, h2, ?_⟩
    · have := List.mem_zipIdx h1
      rw [this.2.2]; exact List.getElem_mem _
    · simp only [Option.map_some]
      simp only at h2
      rw [h2]
theorem en_modify (l : List En) (i : Nat) (t w : Int) : (l.map en).modify i (fun e => (.sc (.int .i64 t), .sc (.int .i64 w), e.2.2)) = (l.modify i fun e => (t, w, e.2.2)).map en := by
  refine List.ext_getElem? fun j => ?_
  simp only [List.getElem?_modify, List.getElem?_map]
  cases l[j]? with
  | none => rfl
  | some e => by_cases c : i = j <;> simp [c, en]
theorem mem_modify {α : Type} {f : α → α} {a : α} : ∀ {l : List α} {i : Nat}, a ∈ l.modify i f → a ∈ l ∨ ∃ b ∈ l, a = f b := by
  intro l
  induction l with
  | nil => intro i h; simp at h
  | cons b l ih =>
    intro i h
    cases i with
    | zero =>
      simp at h
      rcases h with rfl | h
      · exact .inr ⟨b, by simp, rfl⟩
      · exact .inl (by simp [h])
    | succ i =>
      simp at h
      rcases h with rfl | h
      · exact .inl (by simp)
      · rcases ih h with h | ⟨c, hc, h⟩
        · exact .inl (by simp [h])
        · exact .inr ⟨c, by simp [hc], h⟩
end Go.Proofs.Ytllkidpebjgkeaa.vt
namespace Go.Proofs.Ytllkidpebjgkeaa.vt
open Go.Ab fr dk
set_option maxRecDepth 100000
set_option maxHeartbeats 8000000
set_option linter.unusedSimpArgs false
set_option linter.unusedVariables false

/-- Who was voted for. -/
def MI (σ : St) (o : Nat) (t w : Int) : Prop := ∃ (l : List En) (c : Nat), σ.get o = some (.map (l.map en) c) ∧ ∀ e ∈ l, e.1 ≤ t ∧ (e.1 = t → e.2.1 = w ∧ 0 ≤ w)
theorem MI.kept {σ σ' : St} {o : Nat} {t w : Int} {X : Nat → Prop} (h : MI σ o t w) (k : Kept X σ σ') (hx : ¬ X o) : MI σ' o t w := by
  obtain ⟨l, c, h1, h2⟩ := h
  exact ⟨l, c, k.get _ _ hx h1, h2⟩
theorem MI.lt {σ : St} {o : Nat} {t w : Int} (h : MI σ o t w) : o < σ.n := by
  obtain ⟨l, c, h1, h2⟩ := h
  exact St.get_lt h1
theorem MI.up {σ : St} {o : Nat} {t w : Int} {y : VB} (h : MI σ o y.t y.w) (u : Up y t w) : MI σ o t w := by
  obtain ⟨l, c, h1, h2⟩ := h
  refine ⟨l, c, h1, fun e he => ?_⟩
  obtain ⟨h3, h4⟩ := h2 e he
  rcases u with u | ⟨u, v⟩
  · exact ⟨by omega, fun h => by omega⟩
  · subst u
    refine ⟨h3, fun h => ?_⟩
    obtain ⟨h5, h6⟩ := h4 h
    rcases v with v | v
    · subst v; exact ⟨h5, h6⟩
    · omega
theorem MI.find {σ : St} {o : Nat} {t w : Int} (h : MI σ o t w) : ∃ (l : List En) (c : Nat), σ.get o = some (.map (l.map en) c) ∧ (aFind σ (.int .i64) (.sc (.int .i64 t)) (l.map en) 0 = some none ∨ ∃ i, aFind σ (.int .i64) (.sc (.int .i64 t)) (l.map en) 0 = some (some (i, .sc (.int .i64 t), .sc (.int .i64 w)))) ∧ ∀ e ∈ l, e.1 ≤ t ∧ (e.1 = t → e.2.1 = w ∧ 0 ≤ w) := by
  obtain ⟨l, c, h1, h2⟩ := h
  refine ⟨l, c, h1, ?_, h2⟩
  rcases find_cases σ t l with h3 | ⟨e, i, he, h4, h3⟩
  · exact .inl h3
  · obtain ⟨h5, h6⟩ := (h2 e he).2 h4
    rw [h5] at h3
    exact .inr ⟨i, h3⟩

theorem xmk (σ : St) : XOp.run σ .mkmap [] = some (.mp σ.n, σ.push (.map [] 0)) := rfl
theorem key_int (σ : St) (t : Int) : aKey σ (.int .i64) (.sc (.int .i64 t)) = true := by simp [aKey, aEqV, aEqInt]
theorem xlook0 {σ : St} {o : Nat} {t : Int} {l : List En} {c : Nat} (h : σ.get o = some (.map (l.map en) c)) (hf : aFind σ (.int .i64) (.sc (.int .i64 t)) (l.map en) 0 = some none) : XOp.run σ (.lookup (.int .i64) (.sc (.int .i64 0)) true) [.mp o, .sc (.int .i64 t)] = some (.tup [.sc (.int .i64 0), .sc (.bool false)], σ) := by
  simp only [XOp.run, aEnts, h, Option.bind_some, key_int, if_true, hf, Option.map_some]
theorem xlook1 {σ : St} {o : Nat} {t w : Int} {l : List En} {c i : Nat} (h : σ.get o = some (.map (l.map en) c)) (hf : aFind σ (.int .i64) (.sc (.int .i64 t)) (l.map en) 0 = some (some (i, .sc (.int .i64 t), .sc (.int .i64 w)))) : XOp.run σ (.lookup (.int .i64) (.sc (.int .i64 0)) true) [.mp o, .sc (.int .i64 t)] = some (.tup [.sc (.int .i64 w), .sc (.bool true)], σ) := by
  simp only [XOp.run, aEnts, h, Option.bind_some, key_int, if_true, hf, Option.map_some]
/-- A voter is noted. -/
theorem xupd {σ : St} {o : Nat} {t w : Int} (hw : 0 ≤ w) {l : List En} {c : Nat} (h : σ.get o = some (.map (l.map en) c)) (hl : ∀ e ∈ l, e.1 ≤ t ∧ (e.1 = t → e.2.1 = w ∧ 0 ≤ w)) : ∃ σ', XOp.run σ (.mapUpd (.int .i64)) [.mp o, .sc (.int .i64 t), .sc (.int .i64 w)] = some (.undef, σ') ∧ MI σ' o t w ∧ Kept (· = o) σ σ' := by
  have lo := St.get_lt h
  have base : ∀ (l' : List En) (c' : Nat), (∀ e ∈ l', e.1 ≤ t ∧ (e.1 = t → e.2.1 = w ∧ 0 ≤ w)) → MI (σ.put o (some (.map (l'.map en) c'))) o t w ∧ Kept (· = o) σ (σ.put o (some (.map (l'.map en) c'))) := fun l' c' h' =>
    ⟨⟨l', c', get_put_self h, h'⟩, Kept.put (X := (· = o)) (Kept.refl _ _) (.inl rfl) lo _⟩
  rcases find_cases σ t l with h3 | ⟨e, i, he, h4, h3⟩
  · refine ⟨_, ?_, base (l ++ [(t, w, c)]) (c + 1) fun e he => ?_⟩
    · simp only [XOp.run, h, key_int, if_true, h3, Option.bind_some]
      rw [List.map_append]; rfl
    · rcases List.mem_append.1 he with he | he
      · exact hl e he
      · simp at he; subst he; exact ⟨Int.le_refl _, fun _ => ⟨rfl, hw⟩⟩
  · refine ⟨_, ?_, base (l.modify i fun e => (t, w, e.2.2)) c fun e he => ?_⟩
    · simp only [XOp.run, h, key_int, if_true, h3, Option.bind_some]
      rw [← en_modify]
      simp [V.plain, V.flat]
    · rcases mem_modify he with he | ⟨e', he, rfl⟩
      · exact hl e he
      · exact ⟨Int.le_refl _, fun _ => ⟨rfl, hw⟩⟩

theorem once_run (k : Nat) (σ0 : St) (x : V) (l : List Stp) (h : Scr x l) (hk : 9223372036854775808 ≤ k) (σ1 : St) (hw : callY Tab.tb (k + 7) noYl 8 [] σ0 = some (.sc (.bool true), σ1)) :
    W (callY Tab.tb (k + 8) noYl 5 [x] σ0) fun r => r.1 = .sc (.bool true) := by
  rw [s_call (af := Tab.b5) rfl (Nat.le_of_ble_eq_true rfl)]
  have hnew := fun σ => dk.new_ok (k + 6) noYl σ
  have hheavy := fun σ => heavy_ok (k + 6) noYl σ x l h (by omega)
  have hpow := fun σ d M n h => power_ok (k + 6) noYl σ d M n h
  have hopen := fun σ d M h B hm hB => open_ok (B := B) (k + 1) noYl σ d M h hm hB (by omega)
  have hnow := fun σ b d x h => now_ok (k + 6) noYl σ b d x h
  have hwrite := fun σ b d x M t w hb hd hbd B hm hB h1 h2 h3 => write_ok (B := B) k noYl σ b d x M t w hb hd hbd hm hB h1 h2 h3 (by omega)
  have hcra := fun σ d M kv ks torn h hkv B hm hB => crash_ok (B := B) (k + 4) noYl σ d M kv ks torn h hkv hm hB (by omega)
  generalize callY Tab.tb (k + 7) = cy at hw hnew hheavy hpow hopen hnow hwrite hcra ⊢
  have hlen := h.rv.len
  rw [List.length_map] at hlen
  have hsize := h.rv.size
  simp -implicitDefEqProofs (disch := first | exact nbf rfl | exact nbt rfl | (simp only [ne_eq, reduceCtorEq, not_false_eq_true]; done) | omega | (simp -implicitDefEqProofs only [St.n_push, St.n_put, St.n_bump, List.length_set] <;> omega) | fail) only [Tab.b5, hw, aCallv, aPtrEq, XOp.kind, AOp.run, AO.eval, put, reduceCtorEq, aInt, Nat.reduceEqDiff, initEnv, V.bool, V.i64, resultsOf, AR.get, aExtract, aUn, Int.reduceEq, Int.reduceBEq, Int.reduceBNe, aBox, aLoad, aStore, aPart, aPlace, aArrAddr, aArrIdx, aIdx, aLenStr, aConv, aFold, aMinMax, aEqV, aNilCheck, fillV, aEqBool, aEqInt, aEqStr, Nat.reduceAdd, Nat.reduceLeDiff, Nat.reduceMul, Int.reduceLT, Int.reduceLE, Int.reduceToNat, Int.reduceGT, Int.reduceGE, Int.reduceNeg, Int.reduceAdd, Int.reduceSub, wrap64, chkAdd, effAdd, AOp.kind, chkAll, chkSee, Nat.reduceLT, zP.down, zQ.down]
  repeat (first | refine w_fin ?_ | refine w_seq ?_ | refine w_block ?_ | refine w_reg ?_ | refine w_op ?_ | refine w_dop ?_)
  refine (hheavy σ1).mono ?_
  rintro ⟨_, σ2⟩ ⟨hb, rfl, _, hh⟩
  cases hb with
  | true => simp -implicitDefEqProofs (disch := first | exact nbf rfl | exact nbt rfl | (simp only [ne_eq, reduceCtorEq, not_false_eq_true]; done) | omega | (simp -implicitDefEqProofs only [St.n_push, St.n_put, St.n_bump, List.length_set] <;> omega) | fail) only [aCallv, aPtrEq, XOp.kind, AOp.run, AO.eval, put, reduceCtorEq, aInt, Nat.reduceEqDiff, initEnv, V.bool, V.i64, resultsOf, AR.get, aExtract, aUn, Int.reduceEq, Int.reduceBEq, Int.reduceBNe, aBox, aLoad, aStore, aPart, aPlace, aArrAddr, aArrIdx, aIdx, aLenStr, aConv, aFold, aMinMax, aEqV, aNilCheck, fillV, aEqBool, aEqInt, aEqStr, Nat.reduceAdd, Nat.reduceLeDiff, Nat.reduceMul, Int.reduceLT, Int.reduceLE, Int.reduceToNat, Int.reduceGT, Int.reduceGE, Int.reduceNeg, Int.reduceAdd, Int.reduceSub, wrap64, chkAdd, effAdd, AOp.kind, chkAll, chkSee, Nat.reduceLT, zP.down, zQ.down]
  | false =>
  obtain ⟨hl100, hs⟩ := hh rfl
  simp -implicitDefEqProofs (disch := first | exact nbf rfl | exact nbt rfl | (simp only [ne_eq, reduceCtorEq, not_false_eq_true]; done) | omega | (simp -implicitDefEqProofs only [St.n_push, St.n_put, St.n_bump, List.length_set] <;> omega) | fail) only [aCallv, aPtrEq, XOp.kind, AOp.run, AO.eval, put, reduceCtorEq, aInt, Nat.reduceEqDiff, initEnv, V.bool, V.i64, resultsOf, AR.get, aExtract, aUn, Int.reduceEq, Int.reduceBEq, Int.reduceBNe, aBox, aLoad, aStore, aPart, aPlace, aArrAddr, aArrIdx, aIdx, aLenStr, aConv, aFold, aMinMax, aEqV, aNilCheck, fillV, aEqBool, aEqInt, aEqStr, Nat.reduceAdd, Nat.reduceLeDiff, Nat.reduceMul, Int.reduceLT, Int.reduceLE, Int.reduceToNat, Int.reduceGT, Int.reduceGE, Int.reduceNeg, Int.reduceAdd, Int.reduceSub, wrap64, chkAdd, effAdd, AOp.kind, chkAll, chkSee, Nat.reduceLT, zP.down, zQ.down]
  repeat (first | refine w_fin ?_ | refine w_seq ?_ | refine w_block ?_ | refine w_reg ?_ | refine w_op ?_ | refine w_dop ?_)
  refine (hnew σ2).mono ?_
  rintro ⟨_, σ3⟩ ⟨rfl, hd3, _, hn3⟩
  dsimp only at hd3 hn3
  generalize σ2.n = d at *
  simp -implicitDefEqProofs (disch := first | exact nbf rfl | exact nbt rfl | (simp only [ne_eq, reduceCtorEq, not_false_eq_true]; done) | omega | (simp -implicitDefEqProofs only [St.n_push, St.n_put, St.n_bump, List.length_set] <;> omega) | fail) only [aCallv, aPtrEq, XOp.kind, AOp.run, AO.eval, put, reduceCtorEq, aInt, Nat.reduceEqDiff, initEnv, V.bool, V.i64, resultsOf, AR.get, aExtract, aUn, Int.reduceEq, Int.reduceBEq, Int.reduceBNe, aBox, aLoad, aStore, aPart, aPlace, aArrAddr, aArrIdx, aIdx, aLenStr, aConv, aFold, aMinMax, aEqV, aNilCheck, fillV, aEqBool, aEqInt, aEqStr, Nat.reduceAdd, Nat.reduceLeDiff, Nat.reduceMul, Int.reduceLT, Int.reduceLE, Int.reduceToNat, Int.reduceGT, Int.reduceGE, Int.reduceNeg, Int.reduceAdd, Int.reduceSub, wrap64, chkAdd, effAdd, AOp.kind, chkAll, chkSee, Nat.reduceLT, zP.down, zQ.down]
  repeat (first | refine w_fin ?_ | refine w_seq ?_ | refine w_block ?_ | refine w_reg ?_ | refine w_op ?_ | refine w_dop ?_)
  obtain ⟨M1, v1, v2, v3⟩ := vopen_ci CI.zero rfl
  have ho1 := vopen_ok (DM.Ok.zero 0)
  refine (hopen σ3 d D0 hd3 0 (DM.Ok.zero 0) (by omega)).mono ?_
  rintro ⟨_, σ4⟩ ⟨b, rfl, hb4, hd4, _⟩
  rw [v1] at hb4 hd4 ho1 ⊢
  dsimp only at hb4 hd4 ho1
  obtain ⟨hb4, hbn⟩ := hb4 rfl
  have hbd : b ≠ d := by have := hd3.lt; omega
  simp -implicitDefEqProofs (disch := first | exact nbf rfl | exact nbt rfl | (simp only [ne_eq, reduceCtorEq, not_false_eq_true]; done) | omega | (simp -implicitDefEqProofs only [St.n_push, St.n_put, St.n_bump, List.length_set] <;> omega) | fail) only [hlen, xmk, aCallv, aPtrEq, XOp.kind, AOp.run, AO.eval, put, reduceCtorEq, aInt, Nat.reduceEqDiff, initEnv, V.bool, V.i64, resultsOf, AR.get, aExtract, aUn, Int.reduceEq, Int.reduceBEq, Int.reduceBNe, aBox, aLoad, aStore, aPart, aPlace, aArrAddr, aArrIdx, aIdx, aLenStr, aConv, aFold, aMinMax, aEqV, aNilCheck, fillV, aEqBool, aEqInt, aEqStr, Nat.reduceAdd, Nat.reduceLeDiff, Nat.reduceMul, Int.reduceLT, Int.reduceLE, Int.reduceToNat, Int.reduceGT, Int.reduceGE, Int.reduceNeg, Int.reduceAdd, Int.reduceSub, wrap64, chkAdd, effAdd, AOp.kind, chkAll, chkSee, Nat.reduceLT, zP.down, zQ.down]
  repeat (first | refine w_fin ?_ | refine w_seq ?_ | refine w_block ?_ | refine w_reg ?_ | refine w_op ?_ | refine w_dop ?_)
  have lb := St.get_lt hb4
  have ld := hd4.lt
  refine W.mono (Q := fun r => ∃ (ρ : Env) (σ : St), r = ((.exit 0 : Ex), ρ, σ)) ?_ ?_
  · refine w_loop (fun m ρ σ => ∃ (i b : Nat) (M : DM) (L : Nat → List (List UInt8)) (y : VB), m = l.length - i ∧ i ≤ l.length ∧ DR σ d M ∧ BR σ b d y ∧ MI σ σ4.n y.t y.w ∧ M.Ok (4 + 7 * i) ∧ CI Fs i M L y ∧ b ≠ d ∧ b ≠ σ4.n ∧ ρ 3 = .ptr d 0 ∧ ρ 4 = .ptr b 0 ∧ ρ 6 = .mp σ4.n ∧ ρ 7 = .sc (.int .i64 y.t) ∧ ρ 27 = x ∧ ρ 28 = .sc (.int .i64 l.length) ∧ ρ 29 = .sc (.int .i64 i)) l.length (by omega) ?_ ?_
    · have k5 : Kept noX σ4 (σ4.push (.map [] 0)) := (Kept.refl noX σ4).push _
      refine ⟨0, b, M1, fun _ => [], x0, rfl, Nat.zero_le _, ?_, ?_, ?_, ho1.more (by omega), v3, hbd, by omega, ?_, ?_, ?_, ?_, ?_, ?_, ?_⟩
      · exact hd4.kept k5 (fun h => h)
      · exact k5.get _ _ (fun h => h) hb4
      · exact ⟨[], 0, get_push_self, by simp⟩
      all_goals first | rfl | (simp -implicitDefEqProofs (disch := first | exact nbf rfl | exact nbt rfl | (simp only [ne_eq, reduceCtorEq, not_false_eq_true]; done) | omega | (simp -implicitDefEqProofs only [St.n_push, St.n_put, St.n_bump, List.length_set] <;> omega) | fail) only [aCallv, aPtrEq, XOp.kind, AOp.run, AO.eval, put, reduceCtorEq, aInt, Nat.reduceEqDiff, initEnv, V.bool, V.i64, resultsOf, AR.get, aExtract, aUn, Int.reduceEq, Int.reduceBEq, Int.reduceBNe, aBox, aLoad, aStore, aPart, aPlace, aArrAddr, aArrIdx, aIdx, aLenStr, aConv, aFold, aMinMax, aEqV, aNilCheck, fillV, aEqBool, aEqInt, aEqStr, Nat.reduceAdd, Nat.reduceLeDiff, Nat.reduceMul, Int.reduceLT, Int.reduceLE, Int.reduceToNat, Int.reduceGT, Int.reduceGE, Int.reduceNeg, Int.reduceAdd, Int.reduceSub, wrap64, chkAdd, effAdd, AOp.kind, chkAll, chkSee, Nat.reduceLT, zP.down, zQ.down]; done) | (simp -implicitDefEqProofs (disch := first | exact nbf rfl | exact nbt rfl | (simp only [ne_eq, reduceCtorEq, not_false_eq_true]; done) | omega | (simp -implicitDefEqProofs only [St.n_push, St.n_put, St.n_bump, List.length_set] <;> omega) | fail) only [aCallv, aPtrEq, XOp.kind, AOp.run, AO.eval, put, reduceCtorEq, aInt, Nat.reduceEqDiff, initEnv, V.bool, V.i64, resultsOf, AR.get, aExtract, aUn, Int.reduceEq, Int.reduceBEq, Int.reduceBNe, aBox, aLoad, aStore, aPart, aPlace, aArrAddr, aArrIdx, aIdx, aLenStr, aConv, aFold, aMinMax, aEqV, aNilCheck, fillV, aEqBool, aEqInt, aEqStr, Nat.reduceAdd, Nat.reduceLeDiff, Nat.reduceMul, Int.reduceLT, Int.reduceLE, Int.reduceToNat, Int.reduceGT, Int.reduceGE, Int.reduceNeg, Int.reduceAdd, Int.reduceSub, wrap64, chkAdd, effAdd, AOp.kind, chkAll, chkSee, Nat.reduceLT, zP.down, zQ.down]; rfl)
    · rintro m ρ σ ⟨i, b, M, L, y, hm, hi, hd, hb, hmi, hM, hci, hbd, hbm, e3, e4, e6, e7, e27, e28, e29⟩
      by_cases hl : i < l.length
      · have d1 : decide ((i : Int) < (l.length : Int)) = true := by simpa using hl
        obtain ⟨a1, a2, a3⟩ := h.at hl
        simp only [stc] at a3
        have hpo := h.ok _ (List.getElem_mem hl)
        have hcell := hpo.kv.cell
        have w3 : IntKind.i64.wrap ((i : Int) + 1) = ((i + 1 : Nat) : Int) := wrap64 (by omega) (by omega)
        simp -implicitDefEqProofs (disch := first | exact nbf rfl | exact nbt rfl | (simp only [ne_eq, reduceCtorEq, not_false_eq_true]; done) | omega | (simp -implicitDefEqProofs only [St.n_push, St.n_put, St.n_bump, List.length_set] <;> omega) | fail) only [d1, e3, e4, e6, e7, e27, e28, e29, a1, a2, a3, hsize, hcell.1, hcell.2, w3, aCallv, aPtrEq, XOp.kind, AOp.run, AO.eval, put, reduceCtorEq, aInt, Nat.reduceEqDiff, initEnv, V.bool, V.i64, resultsOf, AR.get, aExtract, aUn, Int.reduceEq, Int.reduceBEq, Int.reduceBNe, aBox, aLoad, aStore, aPart, aPlace, aArrAddr, aArrIdx, aIdx, aLenStr, aConv, aFold, aMinMax, aEqV, aNilCheck, fillV, aEqBool, aEqInt, aEqStr, Nat.reduceAdd, Nat.reduceLeDiff, Nat.reduceMul, Int.reduceLT, Int.reduceLE, Int.reduceToNat, Int.reduceGT, Int.reduceGE, Int.reduceNeg, Int.reduceAdd, Int.reduceSub, wrap64, chkAdd, effAdd, AOp.kind, chkAll, chkSee, Nat.reduceLT, zP.down, zQ.down]
        refine w_seq (w_block (w_seq ?_))
        refine W.mono (Q := fun r => ∃ (ρ' : Env) (σ' : St) (M' : DM), r = ((.normal : Ex), ρ', σ') ∧ DR σ' d M' ∧ BR σ' b d y ∧ MI σ' σ4.n y.t y.w ∧ M'.Ok (4 + 7 * i) ∧ CI Fs i M' L y ∧ ρ' 3 = .ptr d 0 ∧ ρ' 4 = .ptr b 0 ∧ ρ' 6 = .mp σ4.n ∧ ρ' 7 = .sc (.int .i64 y.t) ∧ ρ' 9 = .agg [.sc (.int .i64 l[i].k), .sc (.int .i64 l[i].n), .sc (.int .i64 l[i].t), .sc (.int .i64 l[i].w), .str l[i].s, l[i].kv] ∧ ρ' 27 = x ∧ ρ' 28 = .sc (.int .i64 l.length) ∧ ρ' 29 = .sc (.int .i64 i)) ?_ ?_
        · have m1 := max64 l[i].n 0
          have hdb : DR σ.bump d M := hd.kept (Kept.refl noX σ).bump (fun h => h)
          have hbb : BR σ.bump b d y := ((Kept.refl noX σ).bump).get _ _ (fun h => h) hb
          have hmb : MI σ.bump σ4.n y.t y.w := hmi.kept (Kept.refl noX σ).bump (fun h => h)
          by_cases k1 : l[i].k.tmod 2 = 1
          · have d0 := beq_iff_eq.2 k1
            simp -implicitDefEqProofs (disch := first | exact nbf rfl | exact nbt rfl | (simp only [ne_eq, reduceCtorEq, not_false_eq_true]; done) | omega | (simp -implicitDefEqProofs only [St.n_push, St.n_put, St.n_bump, List.length_set] <;> omega) | fail) only [d0, m1, e3, e4, e6, e7, e27, e28, e29, aCallv, aPtrEq, XOp.kind, AOp.run, AO.eval, put, reduceCtorEq, aInt, Nat.reduceEqDiff, initEnv, V.bool, V.i64, resultsOf, AR.get, aExtract, aUn, Int.reduceEq, Int.reduceBEq, Int.reduceBNe, aBox, aLoad, aStore, aPart, aPlace, aArrAddr, aArrIdx, aIdx, aLenStr, aConv, aFold, aMinMax, aEqV, aNilCheck, fillV, aEqBool, aEqInt, aEqStr, Nat.reduceAdd, Nat.reduceLeDiff, Nat.reduceMul, Int.reduceLT, Int.reduceLE, Int.reduceToNat, Int.reduceGT, Int.reduceGE, Int.reduceNeg, Int.reduceAdd, Int.reduceSub, wrap64, chkAdd, effAdd, AOp.kind, chkAll, chkSee, Nat.reduceLT, zP.down, zQ.down]
            repeat (first | refine w_fin ?_ | refine w_seq ?_ | refine w_block ?_ | refine w_reg ?_ | refine w_op ?_ | refine w_dop ?_)
            refine (hpow σ.bump d M (max l[i].n 0) hdb).mono ?_
            rintro ⟨_, σ5⟩ ⟨rfl, hd5, k5, _⟩
            dsimp only at hd5 k5
            have hnn := hpo.n
            have hok := hM.power (n := max l[i].n 0) (by omega)
            simp -implicitDefEqProofs (disch := first | exact nbf rfl | exact nbt rfl | (simp only [ne_eq, reduceCtorEq, not_false_eq_true]; done) | omega | (simp -implicitDefEqProofs only [St.n_push, St.n_put, St.n_bump, List.length_set] <;> omega) | fail) only [e3, e4, e6, e7, e27, e28, e29, aCallv, aPtrEq, XOp.kind, AOp.run, AO.eval, put, reduceCtorEq, aInt, Nat.reduceEqDiff, initEnv, V.bool, V.i64, resultsOf, AR.get, aExtract, aUn, Int.reduceEq, Int.reduceBEq, Int.reduceBNe, aBox, aLoad, aStore, aPart, aPlace, aArrAddr, aArrIdx, aIdx, aLenStr, aConv, aFold, aMinMax, aEqV, aNilCheck, fillV, aEqBool, aEqInt, aEqStr, Nat.reduceAdd, Nat.reduceLeDiff, Nat.reduceMul, Int.reduceLT, Int.reduceLE, Int.reduceToNat, Int.reduceGT, Int.reduceGE, Int.reduceNeg, Int.reduceAdd, Int.reduceSub, wrap64, chkAdd, effAdd, AOp.kind, chkAll, chkSee, Nat.reduceLT, zP.down, zQ.down]
            refine ⟨_, _, _, rfl, hd5, k5.get _ _ hbd hbb, hmb.kept k5 (by omega), hok, hci.pow rfl, ?_, ?_, ?_, ?_, ?_, ?_, ?_, ?_⟩
            all_goals (simp -implicitDefEqProofs (disch := first | exact nbf rfl | exact nbt rfl | (simp only [ne_eq, reduceCtorEq, not_false_eq_true]; done) | omega | (simp -implicitDefEqProofs only [St.n_push, St.n_put, St.n_bump, List.length_set] <;> omega) | fail) only [e3, e4, e6, e7, e27, e28, e29, aCallv, aPtrEq, XOp.kind, AOp.run, AO.eval, put, reduceCtorEq, aInt, Nat.reduceEqDiff, initEnv, V.bool, V.i64, resultsOf, AR.get, aExtract, aUn, Int.reduceEq, Int.reduceBEq, Int.reduceBNe, aBox, aLoad, aStore, aPart, aPlace, aArrAddr, aArrIdx, aIdx, aLenStr, aConv, aFold, aMinMax, aEqV, aNilCheck, fillV, aEqBool, aEqInt, aEqStr, Nat.reduceAdd, Nat.reduceLeDiff, Nat.reduceMul, Int.reduceLT, Int.reduceLE, Int.reduceToNat, Int.reduceGT, Int.reduceGE, Int.reduceNeg, Int.reduceAdd, Int.reduceSub, wrap64, chkAdd, effAdd, AOp.kind, chkAll, chkSee, Nat.reduceLT, zP.down, zQ.down]; done)
          · have d0 := beq_eq_false_iff_ne.2 k1
            simp -implicitDefEqProofs (disch := first | exact nbf rfl | exact nbt rfl | (simp only [ne_eq, reduceCtorEq, not_false_eq_true]; done) | omega | (simp -implicitDefEqProofs only [St.n_push, St.n_put, St.n_bump, List.length_set] <;> omega) | fail) only [d0, e3, e4, e6, e7, e27, e28, e29, aCallv, aPtrEq, XOp.kind, AOp.run, AO.eval, put, reduceCtorEq, aInt, Nat.reduceEqDiff, initEnv, V.bool, V.i64, resultsOf, AR.get, aExtract, aUn, Int.reduceEq, Int.reduceBEq, Int.reduceBNe, aBox, aLoad, aStore, aPart, aPlace, aArrAddr, aArrIdx, aIdx, aLenStr, aConv, aFold, aMinMax, aEqV, aNilCheck, fillV, aEqBool, aEqInt, aEqStr, Nat.reduceAdd, Nat.reduceLeDiff, Nat.reduceMul, Int.reduceLT, Int.reduceLE, Int.reduceToNat, Int.reduceGT, Int.reduceGE, Int.reduceNeg, Int.reduceAdd, Int.reduceSub, wrap64, chkAdd, effAdd, AOp.kind, chkAll, chkSee, Nat.reduceLT, zP.down, zQ.down]
            refine ⟨_, _, M, rfl, hdb, hbb, hmb, hM, hci, ?_, ?_, ?_, ?_, ?_, ?_, ?_, ?_⟩
            all_goals (simp -implicitDefEqProofs (disch := first | exact nbf rfl | exact nbt rfl | (simp only [ne_eq, reduceCtorEq, not_false_eq_true]; done) | omega | (simp -implicitDefEqProofs only [St.n_push, St.n_put, St.n_bump, List.length_set] <;> omega) | fail) only [e3, e4, e6, e7, e27, e28, e29, aCallv, aPtrEq, XOp.kind, AOp.run, AO.eval, put, reduceCtorEq, aInt, Nat.reduceEqDiff, initEnv, V.bool, V.i64, resultsOf, AR.get, aExtract, aUn, Int.reduceEq, Int.reduceBEq, Int.reduceBNe, aBox, aLoad, aStore, aPart, aPlace, aArrAddr, aArrIdx, aIdx, aLenStr, aConv, aFold, aMinMax, aEqV, aNilCheck, fillV, aEqBool, aEqInt, aEqStr, Nat.reduceAdd, Nat.reduceLeDiff, Nat.reduceMul, Int.reduceLT, Int.reduceLE, Int.reduceToNat, Int.reduceGT, Int.reduceGE, Int.reduceNeg, Int.reduceAdd, Int.reduceSub, wrap64, chkAdd, effAdd, AOp.kind, chkAll, chkSee, Nat.reduceLT, zP.down, zQ.down]; done)
        rintro _ ⟨ρ, σ, M, rfl, hd, hb, hmi, hM, hci, e3, e4, e6, e7, e9, e27, e28, e29⟩
        have f1 := hwrite σ b d y M l[i].t l[i].w hb hd hbd (4 + 7 * i) hM (by omega) (by have := hci.c; omega) hci.f1 (by have := hci.nn; omega)
        have hmo := vwrite_ok hM y l[i].t l[i].w
        have hr := vwrite_ci hci (by omega) l[i].t l[i].w
        have ldm : σ4.n ≠ d := by omega
        simp -implicitDefEqProofs (disch := first | exact nbf rfl | exact nbt rfl | (simp only [ne_eq, reduceCtorEq, not_false_eq_true]; done) | omega | (simp -implicitDefEqProofs only [St.n_push, St.n_put, St.n_bump, List.length_set] <;> omega) | fail) only [e3, e4, e6, e7, e9, e27, e28, e29, aCallv, aPtrEq, XOp.kind, AOp.run, AO.eval, put, reduceCtorEq, aInt, Nat.reduceEqDiff, initEnv, V.bool, V.i64, resultsOf, AR.get, aExtract, aUn, Int.reduceEq, Int.reduceBEq, Int.reduceBNe, aBox, aLoad, aStore, aPart, aPlace, aArrAddr, aArrIdx, aIdx, aLenStr, aConv, aFold, aMinMax, aEqV, aNilCheck, fillV, aEqBool, aEqInt, aEqStr, Nat.reduceAdd, Nat.reduceLeDiff, Nat.reduceMul, Int.reduceLT, Int.reduceLE, Int.reduceToNat, Int.reduceGT, Int.reduceGE, Int.reduceNeg, Int.reduceAdd, Int.reduceSub, wrap64, chkAdd, effAdd, AOp.kind, chkAll, chkSee, Nat.reduceLT, zP.down, zQ.down]
        repeat (first | refine w_fin ?_ | refine w_seq ?_ | refine w_block ?_ | refine w_reg ?_ | refine w_op ?_ | refine w_dop ?_)
        refine f1.mono ?_
        rintro ⟨_, σ5⟩ ⟨rfl, hb5, hd5, k5⟩
        dsimp only at hb5 hd5 k5
        have hmi5 := hmi.kept k5 (by omega)
        generalize vwrite M y l[i].t l[i].w = q at *
        simp -implicitDefEqProofs (disch := first | exact nbf rfl | exact nbt rfl | (simp only [ne_eq, reduceCtorEq, not_false_eq_true]; done) | omega | (simp -implicitDefEqProofs only [St.n_push, St.n_put, St.n_bump, List.length_set] <;> omega) | fail) only [e3, e4, e6, e7, e9, e27, e28, e29, aCallv, aPtrEq, XOp.kind, AOp.run, AO.eval, put, reduceCtorEq, aInt, Nat.reduceEqDiff, initEnv, V.bool, V.i64, resultsOf, AR.get, aExtract, aUn, Int.reduceEq, Int.reduceBEq, Int.reduceBNe, aBox, aLoad, aStore, aPart, aPlace, aArrAddr, aArrIdx, aIdx, aLenStr, aConv, aFold, aMinMax, aEqV, aNilCheck, fillV, aEqBool, aEqInt, aEqStr, Nat.reduceAdd, Nat.reduceLeDiff, Nat.reduceMul, Int.reduceLT, Int.reduceLE, Int.reduceToNat, Int.reduceGT, Int.reduceGE, Int.reduceNeg, Int.reduceAdd, Int.reduceSub, wrap64, chkAdd, effAdd, AOp.kind, chkAll, chkSee, Nat.reduceLT, zP.down, zQ.down]
        refine w_seq ?_
        refine W.mono (Q := fun r => ∃ (ρ' : Env) (σ' : St) (M' : DM) (b' : Nat) (y' : VB) (L' : Nat → List (List UInt8)), r = ((.normal : Ex), ρ', σ') ∧ DR σ' d M' ∧ BR σ' b' d y' ∧ b' ≠ d ∧ b' ≠ σ4.n ∧ MI σ' σ4.n y.t y.w ∧ M'.Ok (4 + 7 * (i + 1)) ∧ CI Fs (i + 1) M' L' y' ∧ Up y y'.t y'.w ∧ ρ' 3 = .ptr d 0 ∧ ρ' 4 = .ptr b' 0 ∧ ρ' 6 = .mp σ4.n ∧ ρ' 7 = .sc (.int .i64 y.t) ∧ ρ' 27 = x ∧ ρ' 28 = .sc (.int .i64 l.length) ∧ ρ' 29 = .sc (.int .i64 i)) ?_ ?_
        · have uu : Up y y.t y.w := .inr ⟨rfl, .inl rfl⟩
          rcases hr with ⟨h1, h2, h3⟩ | ⟨L', h1, h2, h3, h4, hu⟩ | ⟨h1, hu, h2⟩
          · rw [h1] at hd5 hmo
            rw [h2] at hb5
            have g2 : (q.2.2 == 40) = false := by rcases h3 with h | h <;> rw [h] <;> rfl
            simp -implicitDefEqProofs (disch := first | exact nbf rfl | exact nbt rfl | (simp only [ne_eq, reduceCtorEq, not_false_eq_true]; done) | omega | (simp -implicitDefEqProofs only [St.n_push, St.n_put, St.n_bump, List.length_set] <;> omega) | fail) only [g2, aCallv, aPtrEq, XOp.kind, AOp.run, AO.eval, put, reduceCtorEq, aInt, Nat.reduceEqDiff, initEnv, V.bool, V.i64, resultsOf, AR.get, aExtract, aUn, Int.reduceEq, Int.reduceBEq, Int.reduceBNe, aBox, aLoad, aStore, aPart, aPlace, aArrAddr, aArrIdx, aIdx, aLenStr, aConv, aFold, aMinMax, aEqV, aNilCheck, fillV, aEqBool, aEqInt, aEqStr, Nat.reduceAdd, Nat.reduceLeDiff, Nat.reduceMul, Int.reduceLT, Int.reduceLE, Int.reduceToNat, Int.reduceGT, Int.reduceGE, Int.reduceNeg, Int.reduceAdd, Int.reduceSub, wrap64, chkAdd, effAdd, AOp.kind, chkAll, chkSee, Nat.reduceLT, zP.down, zQ.down]
            refine ⟨_, _, M, b, y, L, rfl, hd5, hb5, hbd, hbm, hmi5, hmo.more (by omega), hci.more (Nat.le_succ _), uu, ?_, ?_, ?_, ?_, ?_, ?_, ?_⟩
            all_goals (simp -implicitDefEqProofs (disch := first | exact nbf rfl | exact nbt rfl | (simp only [ne_eq, reduceCtorEq, not_false_eq_true]; done) | omega | (simp -implicitDefEqProofs only [St.n_push, St.n_put, St.n_bump, List.length_set] <;> omega) | fail) only [e3, e4, e6, e7, e27, e28, e29, aCallv, aPtrEq, XOp.kind, AOp.run, AO.eval, put, reduceCtorEq, aInt, Nat.reduceEqDiff, initEnv, V.bool, V.i64, resultsOf, AR.get, aExtract, aUn, Int.reduceEq, Int.reduceBEq, Int.reduceBNe, aBox, aLoad, aStore, aPart, aPlace, aArrAddr, aArrIdx, aIdx, aLenStr, aConv, aFold, aMinMax, aEqV, aNilCheck, fillV, aEqBool, aEqInt, aEqStr, Nat.reduceAdd, Nat.reduceLeDiff, Nat.reduceMul, Int.reduceLT, Int.reduceLE, Int.reduceToNat, Int.reduceGT, Int.reduceGE, Int.reduceNeg, Int.reduceAdd, Int.reduceSub, wrap64, chkAdd, effAdd, AOp.kind, chkAll, chkSee, Nat.reduceLT, zP.down, zQ.down]; done)
          · rw [h1]
            simp -implicitDefEqProofs (disch := first | exact nbf rfl | exact nbt rfl | (simp only [ne_eq, reduceCtorEq, not_false_eq_true]; done) | omega | (simp -implicitDefEqProofs only [St.n_push, St.n_put, St.n_bump, List.length_set] <;> omega) | fail) only [aCallv, aPtrEq, XOp.kind, AOp.run, AO.eval, put, reduceCtorEq, aInt, Nat.reduceEqDiff, initEnv, V.bool, V.i64, resultsOf, AR.get, aExtract, aUn, Int.reduceEq, Int.reduceBEq, Int.reduceBNe, aBox, aLoad, aStore, aPart, aPlace, aArrAddr, aArrIdx, aIdx, aLenStr, aConv, aFold, aMinMax, aEqV, aNilCheck, fillV, aEqBool, aEqInt, aEqStr, Nat.reduceAdd, Nat.reduceLeDiff, Nat.reduceMul, Int.reduceLT, Int.reduceLE, Int.reduceToNat, Int.reduceGT, Int.reduceGE, Int.reduceNeg, Int.reduceAdd, Int.reduceSub, wrap64, chkAdd, effAdd, AOp.kind, chkAll, chkSee, Nat.reduceLT, zP.down, zQ.down]
            refine ⟨_, _, q.1, b, q.2.1, L', rfl, hd5, hb5, hbd, hbm, hmi5, hmo.more (by omega), h2, by rw [h3, h4]; exact hu, ?_, ?_, ?_, ?_, ?_, ?_, ?_⟩
            all_goals (simp -implicitDefEqProofs (disch := first | exact nbf rfl | exact nbt rfl | (simp only [ne_eq, reduceCtorEq, not_false_eq_true]; done) | omega | (simp -implicitDefEqProofs only [St.n_push, St.n_put, St.n_bump, List.length_set] <;> omega) | fail) only [e3, e4, e6, e7, e27, e28, e29, aCallv, aPtrEq, XOp.kind, AOp.run, AO.eval, put, reduceCtorEq, aInt, Nat.reduceEqDiff, initEnv, V.bool, V.i64, resultsOf, AR.get, aExtract, aUn, Int.reduceEq, Int.reduceBEq, Int.reduceBNe, aBox, aLoad, aStore, aPart, aPlace, aArrAddr, aArrIdx, aIdx, aLenStr, aConv, aFold, aMinMax, aEqV, aNilCheck, fillV, aEqBool, aEqInt, aEqStr, Nat.reduceAdd, Nat.reduceLeDiff, Nat.reduceMul, Int.reduceLT, Int.reduceLE, Int.reduceToNat, Int.reduceGT, Int.reduceGE, Int.reduceNeg, Int.reduceAdd, Int.reduceSub, wrap64, chkAdd, effAdd, AOp.kind, chkAll, chkSee, Nat.reduceLT, zP.down, zQ.down]; done)
          · rw [h1]
            obtain ⟨L', y', hci2, hy⟩ := h2 l[i].ks l[i].n
            have hMc := hmo.crash l[i].ks l[i].n
            have hpc : (q.1.crash l[i].ks l[i].n).power = -1 := rfl
            obtain ⟨M6, u1, u2, u3⟩ := vopen_ci hci2 hpc
            have hM6 := vopen_ok hMc
            have f2 := hcra σ5 d q.1 l[i].kv l[i].ks l[i].n hd5 hpo.kv _ hmo (by omega)
            have upy : Up y y'.t y'.w := by
              rcases hy with ⟨q1, q2⟩ | ⟨q1, q2⟩ <;> rw [q1, q2]
              · exact uu
              · exact hu
            simp -implicitDefEqProofs (disch := first | exact nbf rfl | exact nbt rfl | (simp only [ne_eq, reduceCtorEq, not_false_eq_true]; done) | omega | (simp -implicitDefEqProofs only [St.n_push, St.n_put, St.n_bump, List.length_set] <;> omega) | fail) only [e3, e4, e6, e7, e9, e27, e28, e29, hcell.1, hcell.2, aCallv, aPtrEq, XOp.kind, AOp.run, AO.eval, put, reduceCtorEq, aInt, Nat.reduceEqDiff, initEnv, V.bool, V.i64, resultsOf, AR.get, aExtract, aUn, Int.reduceEq, Int.reduceBEq, Int.reduceBNe, aBox, aLoad, aStore, aPart, aPlace, aArrAddr, aArrIdx, aIdx, aLenStr, aConv, aFold, aMinMax, aEqV, aNilCheck, fillV, aEqBool, aEqInt, aEqStr, Nat.reduceAdd, Nat.reduceLeDiff, Nat.reduceMul, Int.reduceLT, Int.reduceLE, Int.reduceToNat, Int.reduceGT, Int.reduceGE, Int.reduceNeg, Int.reduceAdd, Int.reduceSub, wrap64, chkAdd, effAdd, AOp.kind, chkAll, chkSee, Nat.reduceLT, zP.down, zQ.down]
            repeat (first | refine w_fin ?_ | refine w_seq ?_ | refine w_block ?_ | refine w_reg ?_ | refine w_op ?_ | refine w_dop ?_)
            refine f2.mono ?_
            rintro ⟨_, σ6⟩ ⟨rfl, hd6, k6⟩
            dsimp only at hd6 k6
            have hmi6 := hmi5.kept k6 (by omega)
            simp -implicitDefEqProofs (disch := first | exact nbf rfl | exact nbt rfl | (simp only [ne_eq, reduceCtorEq, not_false_eq_true]; done) | omega | (simp -implicitDefEqProofs only [St.n_push, St.n_put, St.n_bump, List.length_set] <;> omega) | fail) only [e3, e4, e6, e7, e9, e27, e28, e29, aCallv, aPtrEq, XOp.kind, AOp.run, AO.eval, put, reduceCtorEq, aInt, Nat.reduceEqDiff, initEnv, V.bool, V.i64, resultsOf, AR.get, aExtract, aUn, Int.reduceEq, Int.reduceBEq, Int.reduceBNe, aBox, aLoad, aStore, aPart, aPlace, aArrAddr, aArrIdx, aIdx, aLenStr, aConv, aFold, aMinMax, aEqV, aNilCheck, fillV, aEqBool, aEqInt, aEqStr, Nat.reduceAdd, Nat.reduceLeDiff, Nat.reduceMul, Int.reduceLT, Int.reduceLE, Int.reduceToNat, Int.reduceGT, Int.reduceGE, Int.reduceNeg, Int.reduceAdd, Int.reduceSub, wrap64, chkAdd, effAdd, AOp.kind, chkAll, chkSee, Nat.reduceLT, zP.down, zQ.down]
            repeat (first | refine w_fin ?_ | refine w_seq ?_ | refine w_block ?_ | refine w_reg ?_ | refine w_op ?_ | refine w_dop ?_)
            refine (hopen σ6 d _ hd6 _ hMc (by omega)).mono ?_
            rintro ⟨_, σ7⟩ ⟨b7, rfl, hb7, hd7, k7⟩
            rw [u1] at hb7 hd7 hM6 ⊢
            dsimp only at hb7 hd7 hM6 k7
            obtain ⟨hb7, hbn7⟩ := hb7 rfl
            have hmi7 := hmi6.kept k7 (by omega)
            have l6 := hd6.lt
            have l6' := hmi6.lt
            simp -implicitDefEqProofs (disch := first | exact nbf rfl | exact nbt rfl | (simp only [ne_eq, reduceCtorEq, not_false_eq_true]; done) | omega | (simp -implicitDefEqProofs only [St.n_push, St.n_put, St.n_bump, List.length_set] <;> omega) | fail) only [e3, e4, e6, e7, e9, e27, e28, e29, dk.pnil, aCallv, aPtrEq, XOp.kind, AOp.run, AO.eval, put, reduceCtorEq, aInt, Nat.reduceEqDiff, initEnv, V.bool, V.i64, resultsOf, AR.get, aExtract, aUn, Int.reduceEq, Int.reduceBEq, Int.reduceBNe, aBox, aLoad, aStore, aPart, aPlace, aArrAddr, aArrIdx, aIdx, aLenStr, aConv, aFold, aMinMax, aNilCheck, fillV, aEqBool, aEqInt, aEqStr, Nat.reduceAdd, Nat.reduceLeDiff, Nat.reduceMul, Int.reduceLT, Int.reduceLE, Int.reduceToNat, Int.reduceGT, Int.reduceGE, Int.reduceNeg, Int.reduceAdd, Int.reduceSub, wrap64, chkAdd, effAdd, AOp.kind, chkAll, chkSee, Nat.reduceLT, zP.down, zQ.down]
            refine ⟨_, _, M6, b7, y', L', rfl, hd7, hb7, by omega, by omega, hmi7, hM6.more (by omega), u3, upy, ?_, ?_, ?_, ?_, ?_, ?_, ?_⟩
            all_goals (simp -implicitDefEqProofs (disch := first | exact nbf rfl | exact nbt rfl | (simp only [ne_eq, reduceCtorEq, not_false_eq_true]; done) | omega | (simp -implicitDefEqProofs only [St.n_push, St.n_put, St.n_bump, List.length_set] <;> omega) | fail) only [e3, e4, e6, e7, e27, e28, e29, aCallv, aPtrEq, XOp.kind, AOp.run, AO.eval, put, reduceCtorEq, aInt, Nat.reduceEqDiff, initEnv, V.bool, V.i64, resultsOf, AR.get, aExtract, aUn, Int.reduceEq, Int.reduceBEq, Int.reduceBNe, aBox, aLoad, aStore, aPart, aPlace, aArrAddr, aArrIdx, aIdx, aLenStr, aConv, aFold, aMinMax, aEqV, aNilCheck, fillV, aEqBool, aEqInt, aEqStr, Nat.reduceAdd, Nat.reduceLeDiff, Nat.reduceMul, Int.reduceLT, Int.reduceLE, Int.reduceToNat, Int.reduceGT, Int.reduceGE, Int.reduceNeg, Int.reduceAdd, Int.reduceSub, wrap64, chkAdd, effAdd, AOp.kind, chkAll, chkSee, Nat.reduceLT, zP.down, zQ.down]; done)
        rintro _ ⟨ρ, σ, M, b, y', L', rfl, hd, hb, hbd, hbm, hmi, hM, hci, hu, e3, e4, e6, e7, e27, e28, e29⟩
        have n1 := hnow σ b d y' hb
        have t1 : decide (y'.t < y.t) = false := by
          rcases hu with h | ⟨h, _⟩ <;> simp <;> omega
        have hmi2 := (hmi.up hu).kept (Kept.refl noX σ).bump.bump (fun h => h)
        have hdb : DR σ.bump.bump d M := hd.kept (Kept.refl noX σ).bump.bump (fun h => h)
        have hbb : BR σ.bump.bump b d y' := ((Kept.refl noX σ).bump.bump).get _ _ (fun h => h) hb
        obtain ⟨es, c, hg, hf, hall⟩ := hmi2.find
        have nn : (y'.w != y'.w) = false := by simp
        by_cases hw0 : y'.w ≥ 0
        · have d3 : decide (y'.w ≥ 0) = true := by simpa using hw0
          obtain ⟨σ8, x8, m8, k8⟩ := xupd hw0 hg hall
          have hd8 : DR σ8 d M := hdb.kept k8 (by omega)
          have hb8 : BR σ8 b d y' := k8.get _ _ (by omega) hbb
          rcases hf with hf | ⟨j, hf⟩
          · have lk := xlook0 hg hf
            simp -implicitDefEqProofs (disch := first | exact nbf rfl | exact nbt rfl | (simp only [ne_eq, reduceCtorEq, not_false_eq_true]; done) | omega | (simp -implicitDefEqProofs only [St.n_push, St.n_put, St.n_bump, List.length_set] <;> omega) | fail) only [e3, e4, e6, e7, e27, e28, e29, n1, t1, lk, d3, x8, w3, aCallv, aPtrEq, XOp.kind, AOp.run, AO.eval, put, reduceCtorEq, aInt, Nat.reduceEqDiff, initEnv, V.bool, V.i64, resultsOf, AR.get, aExtract, aUn, Int.reduceEq, Int.reduceBEq, Int.reduceBNe, aBox, aLoad, aStore, aPart, aPlace, aArrAddr, aArrIdx, aIdx, aLenStr, aConv, aFold, aMinMax, aEqV, aNilCheck, fillV, aEqBool, aEqInt, aEqStr, Nat.reduceAdd, Nat.reduceLeDiff, Nat.reduceMul, Int.reduceLT, Int.reduceLE, Int.reduceToNat, Int.reduceGT, Int.reduceGE, Int.reduceNeg, Int.reduceAdd, Int.reduceSub, wrap64, chkAdd, effAdd, AOp.kind, chkAll, chkSee, Nat.reduceLT, zP.down, zQ.down]
            exact ⟨l.length - (i + 1), by omega, i + 1, b, M, L', y', rfl, hl, hd8, hb8, m8, hM, hci, hbd, hbm, rfl, rfl, rfl⟩
          · have lk := xlook1 hg hf
            simp -implicitDefEqProofs (disch := first | exact nbf rfl | exact nbt rfl | (simp only [ne_eq, reduceCtorEq, not_false_eq_true]; done) | omega | (simp -implicitDefEqProofs only [St.n_push, St.n_put, St.n_bump, List.length_set] <;> omega) | fail) only [e3, e4, e6, e7, e27, e28, e29, n1, t1, lk, d3, x8, w3, nn, aCallv, aPtrEq, XOp.kind, AOp.run, AO.eval, put, reduceCtorEq, aInt, Nat.reduceEqDiff, initEnv, V.bool, V.i64, resultsOf, AR.get, aExtract, aUn, Int.reduceEq, Int.reduceBEq, Int.reduceBNe, aBox, aLoad, aStore, aPart, aPlace, aArrAddr, aArrIdx, aIdx, aLenStr, aConv, aFold, aMinMax, aEqV, aNilCheck, fillV, aEqBool, aEqInt, aEqStr, Nat.reduceAdd, Nat.reduceLeDiff, Nat.reduceMul, Int.reduceLT, Int.reduceLE, Int.reduceToNat, Int.reduceGT, Int.reduceGE, Int.reduceNeg, Int.reduceAdd, Int.reduceSub, wrap64, chkAdd, effAdd, AOp.kind, chkAll, chkSee, Nat.reduceLT, zP.down, zQ.down]
            exact ⟨l.length - (i + 1), by omega, i + 1, b, M, L', y', rfl, hl, hd8, hb8, m8, hM, hci, hbd, hbm, rfl, rfl, rfl⟩
        · have d3 : decide (y'.w ≥ 0) = false := by simpa using hw0
          rcases hf with hf | ⟨j, hf⟩
          · have lk := xlook0 hg hf
            simp -implicitDefEqProofs (disch := first | exact nbf rfl | exact nbt rfl | (simp only [ne_eq, reduceCtorEq, not_false_eq_true]; done) | omega | (simp -implicitDefEqProofs only [St.n_push, St.n_put, St.n_bump, List.length_set] <;> omega) | fail) only [e3, e4, e6, e7, e27, e28, e29, n1, t1, lk, d3, w3, aCallv, aPtrEq, XOp.kind, AOp.run, AO.eval, put, reduceCtorEq, aInt, Nat.reduceEqDiff, initEnv, V.bool, V.i64, resultsOf, AR.get, aExtract, aUn, Int.reduceEq, Int.reduceBEq, Int.reduceBNe, aBox, aLoad, aStore, aPart, aPlace, aArrAddr, aArrIdx, aIdx, aLenStr, aConv, aFold, aMinMax, aEqV, aNilCheck, fillV, aEqBool, aEqInt, aEqStr, Nat.reduceAdd, Nat.reduceLeDiff, Nat.reduceMul, Int.reduceLT, Int.reduceLE, Int.reduceToNat, Int.reduceGT, Int.reduceGE, Int.reduceNeg, Int.reduceAdd, Int.reduceSub, wrap64, chkAdd, effAdd, AOp.kind, chkAll, chkSee, Nat.reduceLT, zP.down, zQ.down]
            exact ⟨l.length - (i + 1), by omega, i + 1, b, M, L', y', rfl, hl, hdb, hbb, hmi2, hM, hci, hbd, hbm, rfl, rfl, rfl⟩
          · have lk := xlook1 hg hf
            simp -implicitDefEqProofs (disch := first | exact nbf rfl | exact nbt rfl | (simp only [ne_eq, reduceCtorEq, not_false_eq_true]; done) | omega | (simp -implicitDefEqProofs only [St.n_push, St.n_put, St.n_bump, List.length_set] <;> omega) | fail) only [e3, e4, e6, e7, e27, e28, e29, n1, t1, lk, d3, w3, nn, aCallv, aPtrEq, XOp.kind, AOp.run, AO.eval, put, reduceCtorEq, aInt, Nat.reduceEqDiff, initEnv, V.bool, V.i64, resultsOf, AR.get, aExtract, aUn, Int.reduceEq, Int.reduceBEq, Int.reduceBNe, aBox, aLoad, aStore, aPart, aPlace, aArrAddr, aArrIdx, aIdx, aLenStr, aConv, aFold, aMinMax, aEqV, aNilCheck, fillV, aEqBool, aEqInt, aEqStr, Nat.reduceAdd, Nat.reduceLeDiff, Nat.reduceMul, Int.reduceLT, Int.reduceLE, Int.reduceToNat, Int.reduceGT, Int.reduceGE, Int.reduceNeg, Int.reduceAdd, Int.reduceSub, wrap64, chkAdd, effAdd, AOp.kind, chkAll, chkSee, Nat.reduceLT, zP.down, zQ.down]
            exact ⟨l.length - (i + 1), by omega, i + 1, b, M, L', y', rfl, hl, hdb, hbb, hmi2, hM, hci, hbd, hbm, rfl, rfl, rfl⟩
      · have d1 : decide ((i : Int) < (l.length : Int)) = false := by simpa using hl
        simp -implicitDefEqProofs (disch := first | exact nbf rfl | exact nbt rfl | (simp only [ne_eq, reduceCtorEq, not_false_eq_true]; done) | omega | (simp -implicitDefEqProofs only [St.n_push, St.n_put, St.n_bump, List.length_set] <;> omega) | fail) only [d1, e28, e29, aCallv, aPtrEq, XOp.kind, AOp.run, AO.eval, put, reduceCtorEq, aInt, Nat.reduceEqDiff, initEnv, V.bool, V.i64, resultsOf, AR.get, aExtract, aUn, Int.reduceEq, Int.reduceBEq, Int.reduceBNe, aBox, aLoad, aStore, aPart, aPlace, aArrAddr, aArrIdx, aIdx, aLenStr, aConv, aFold, aMinMax, aEqV, aNilCheck, fillV, aEqBool, aEqInt, aEqStr, Nat.reduceAdd, Nat.reduceLeDiff, Nat.reduceMul, Int.reduceLT, Int.reduceLE, Int.reduceToNat, Int.reduceGT, Int.reduceGE, Int.reduceNeg, Int.reduceAdd, Int.reduceSub, wrap64, chkAdd, effAdd, AOp.kind, chkAll, chkSee, Nat.reduceLT, zP.down, zQ.down]
        exact ⟨_, _, rfl⟩
  · rintro _ ⟨ρ, σ, rfl⟩
    simp -implicitDefEqProofs (disch := first | exact nbf rfl | exact nbt rfl | (simp only [ne_eq, reduceCtorEq, not_false_eq_true]; done) | omega | (simp -implicitDefEqProofs only [St.n_push, St.n_put, St.n_bump, List.length_set] <;> omega) | fail) only [aCallv, aPtrEq, XOp.kind, AOp.run, AO.eval, put, reduceCtorEq, aInt, Nat.reduceEqDiff, initEnv, V.bool, V.i64, resultsOf, AR.get, aExtract, aUn, Int.reduceEq, Int.reduceBEq, Int.reduceBNe, aBox, aLoad, aStore, aPart, aPlace, aArrAddr, aArrIdx, aIdx, aLenStr, aConv, aFold, aMinMax, aEqV, aNilCheck, fillV, aEqBool, aEqInt, aEqStr, Nat.reduceAdd, Nat.reduceLeDiff, Nat.reduceMul, Int.reduceLT, Int.reduceLE, Int.reduceToNat, Int.reduceGT, Int.reduceGE, Int.reduceNeg, Int.reduceAdd, Int.reduceSub, wrap64, chkAdd, effAdd, AOp.kind, chkAll, chkSee, Nat.reduceLT, zP.down, zQ.down]
theorem once_good (x : V) (w : ArgA (.sl stT) x) : good (callN Tab.tbl 9223372036854776000 5 [x] St.empty) = true := by
  obtain ⟨l, h⟩ := scr_of w
  obtain ⟨σ1, hw⟩ := works_ok
  exact call_turned Tab.turned (w_good (once_run 9223372036854775992 St.empty x l h (by decide) σ1 hw))
end Go.Proofs.Ytllkidpebjgkeaa.vt
