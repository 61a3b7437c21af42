/-
  'LeaseSpans': whatever the input, the law's call returns true, and each argument reads behind the call as it read before.
  Conditions: none but the statement's own.
-/
import Derived.Test.YtkikechhkohglaaAbT
import Derived.Test.YtkikechhkohglaaAb20
import Derived.WalkKit
import Derived.ProofKit
import Derived.OpenShut
namespace Go.Proofs.Ytkikechhkohglaa.leaseSpans
open Go.ChangeShapes Go.WideShapes Go.ChangeAt Go.RowKit Go.Ab
theorem own : ownKnob Try.prog.godebug = none := by kernel_rfl
theorem laid : laidOutB Try.prog = true := by kernel_rfl
set_option maxRecDepth 100000
set_option linter.unusedSimpArgs false
theorem works : ∃ σ', callN Tab.tbl 39 14 [] St.empty = some (.sc (.bool true), σ') := good_ok (by kernel_rfl)
theorem span_err (n : Nat) (r : Int) (b : Bool) (e1 : decide (r < 0) = b) (e2 : b = false → decide (r > 500) = true) (σ : St) : callN Tab.tbl (n + 1) 15 [.sc (.int .i64 r)] σ = some (.tup [.sc (.int .i64 0), .sc (.int .i64 2)], σ) := by
  rw [callN_eq (af := Tab.a15) rfl (by simp [Tab.a15])]
  cases b
  · have e2 := e2 rfl
    simp only [e1, e2, Tab.a15, exec, runOps, AOp.run, AO.eval, put, wanted, cond_true, cond_false, Option.map_some, Option.map_none, Option.bind_some, Option.bind_none, upd_self, upd_other, ne_eq, reduceCtorEq, not_false_eq_true, bin_int, aInt, Nat.reduceEqDiff, initEnv, List.getElem?_cons_zero, List.getElem?_cons_succ, Option.getD_some, Bool.false_eq_true, if_false, if_true, V.bool, V.i64, finish, resultsOf, List.mapM_cons, List.mapM_nil, AR.get, Option.bind_eq_bind, Option.pure_def, beq_tt, beq_tf, beq_ft, beq_ff, Bool.not_true, Bool.not_false, Nat.succ_ne_zero, List.map_cons, List.map_nil, aExtract, aUn, Int.reduceEq, Int.reduceBEq, Int.reduceBNe, BEq.rfl]
  · simp only [e1, Tab.a15, exec, runOps, AOp.run, AO.eval, put, wanted, cond_true, cond_false, Option.map_some, Option.map_none, Option.bind_some, Option.bind_none, upd_self, upd_other, ne_eq, reduceCtorEq, not_false_eq_true, bin_int, aInt, Nat.reduceEqDiff, initEnv, List.getElem?_cons_zero, List.getElem?_cons_succ, Option.getD_some, Bool.false_eq_true, if_false, if_true, V.bool, V.i64, finish, resultsOf, List.mapM_cons, List.mapM_nil, AR.get, Option.bind_eq_bind, Option.pure_def, beq_tt, beq_tf, beq_ft, beq_ff, Bool.not_true, Bool.not_false, Nat.succ_ne_zero, List.map_cons, List.map_nil, aExtract, aUn, Int.reduceEq, Int.reduceBEq, Int.reduceBNe, BEq.rfl]
theorem walk_err (r : Int) (b : Bool) (e1 : decide (r < 0) = b) (e2 : b = false → decide (r > 500) = true) : ∃ σ', callN Tab.tbl 40 3 [.sc (.int .i64 r)] St.empty = some (.sc (.bool true), σ') := by
  obtain ⟨σ1, hw⟩ := works
  have hs := span_err 38 r b e1 e2 σ1
  rw [callN_eq (af := Tab.a3) rfl (by simp [Tab.a3])]
  generalize callN Tab.tbl 39 = call at hw hs
  cases b
  · have e2 := e2 rfl
    simp only [hw, hs, e1, e2, Tab.a3, exec, runOps, AOp.run, AO.eval, put, wanted, cond_true, cond_false, Option.map_some, Option.map_none, Option.bind_some, Option.bind_none, upd_self, upd_other, ne_eq, reduceCtorEq, not_false_eq_true, bin_int, aInt, Nat.reduceEqDiff, initEnv, List.getElem?_cons_zero, List.getElem?_cons_succ, Option.getD_some, Bool.false_eq_true, if_false, if_true, V.bool, V.i64, finish, resultsOf, List.mapM_cons, List.mapM_nil, AR.get, Option.bind_eq_bind, Option.pure_def, beq_tt, beq_tf, beq_ft, beq_ff, Bool.not_true, Bool.not_false, Nat.succ_ne_zero, List.map_cons, List.map_nil, aExtract, aUn, Int.reduceEq, Int.reduceBEq, Int.reduceBNe, BEq.rfl]
    exact ⟨_, rfl⟩
  · simp only [hw, hs, e1, Tab.a3, exec, runOps, AOp.run, AO.eval, put, wanted, cond_true, cond_false, Option.map_some, Option.map_none, Option.bind_some, Option.bind_none, upd_self, upd_other, ne_eq, reduceCtorEq, not_false_eq_true, bin_int, aInt, Nat.reduceEqDiff, initEnv, List.getElem?_cons_zero, List.getElem?_cons_succ, Option.getD_some, Bool.false_eq_true, if_false, if_true, V.bool, V.i64, finish, resultsOf, List.mapM_cons, List.mapM_nil, AR.get, Option.bind_eq_bind, Option.pure_def, beq_tt, beq_tf, beq_ft, beq_ff, Bool.not_true, Bool.not_false, Nat.succ_ne_zero, List.map_cons, List.map_nil, aExtract, aUn, Int.reduceEq, Int.reduceBEq, Int.reduceBNe, BEq.rfl]
    exact ⟨_, rfl⟩
def chunk (k : Nat) : Bool := (List.range 50).all fun r => good (callN Tab.tbl 40 3 [.sc (.int .i64 (Int.ofNat (50 * k + r)))] St.empty)
theorem b0 : chunk 0 = true := by kernel_rfl
theorem b1 : chunk 1 = true := by kernel_rfl
theorem b2 : chunk 2 = true := by kernel_rfl
theorem b3 : chunk 3 = true := by kernel_rfl
theorem b4 : chunk 4 = true := by kernel_rfl
theorem b5 : chunk 5 = true := by kernel_rfl
theorem b6 : chunk 6 = true := by kernel_rfl
theorem b7 : chunk 7 = true := by kernel_rfl
theorem b8 : chunk 8 = true := by kernel_rfl
theorem b9 : chunk 9 = true := by kernel_rfl
theorem b10 : chunk 10 = true := by kernel_rfl
theorem chunks : ∀ k, k < 11 → chunk k = true
  | 0, _ => b0
  | 1, _ => b1
  | 2, _ => b2
  | 3, _ => b3
  | 4, _ => b4
  | 5, _ => b5
  | 6, _ => b6
  | 7, _ => b7
  | 8, _ => b8
  | 9, _ => b9
  | 10, _ => b10
  | k + 11, h => by omega
theorem brute (m : Nat) (hm : m < 501) : good (callN Tab.tbl 40 3 [.sc (.int .i64 (Int.ofNat m))] St.empty) = true := by
  have h := chunks (m / 50) (by omega)
  unfold chunk at h
  rw [List.all_eq_true] at h
  have h2 := h (m % 50) (by rw [List.mem_range]; omega)
  have e : 50 * (m / 50) + m % 50 = m := by omega
  rw [e] at h2
  exact h2
theorem walk {H : Type} (enc : TypeId × Value → H) (W : World) (base : Nat) (args : Array Value) (ds : List (DataW H)) (p : List MemPlace)
    (hval : ∀ (j : Nat) t v, Try.f3.params[j]? = some t → args[j]? = some v → Value.okWide Try.prog W .any base t v)
    (hA : DataW.TrodAll enc Try.prog W 0 (fun _ => true) true Try.f3.params.toList args.toList ds p) :
    ∃ vs σ', callN Tab.tbl 40 3 vs St.empty = some (.sc (.bool true), σ') ∧ RvL (Gh.of W) W vs args.toList := by
  rw [Try.params3] at hA hval
  obtain ⟨v0, vs0, d0, ds0, p0, q0, hargs, rfl, rfl, h0, r0⟩ := trodAll_cons hA
  obtain ⟨rfl, rfl, rfl⟩ := trodAll_nil r0
  have he : args = #[v0] := by cases args; simp_all
  subst he
  obtain ⟨n, rfl, rfl, rfl, -⟩ := open_int Try.underlying3 (hval 0 3 v0 rfl rfl) h0
  have key : ∃ σ', callN Tab.tbl 40 3 [.sc (.int .i64 n)] St.empty = some (.sc (.bool true), σ') := by
    by_cases h1 : n < 0
    · exact walk_err n true (by simpa using h1) (fun h => by cases h)
    · by_cases h2 : n > 500
      · exact walk_err n false (by simpa using h1) (fun _ => by simpa using h2)
      · have hn : n = Int.ofNat n.toNat := by simp; omega
        rw [hn]
        exact good_ok (brute n.toNat (by omega))
  obtain ⟨σ', hk⟩ := key
  exact ⟨_, σ', hk, RvL.one Rv.int⟩
set_option maxRecDepth 100000 in
theorem contract (H : Type) (enc : TypeId × Value → H) (W : World) (base : Nat) (args : Array Value) (ds gs : List (DataW H)) (before : List MemPlace)
    (hval : ∀ (j : Nat) t v, Try.f3.params[j]? = some t → args[j]? = some v → Value.okWide Try.prog W .any base t v)
    (hW : DataW.Whole enc Try.prog Try.f3.params.toList Rows.leaseSpansSpec.vars false W args.toList ds gs before) :
    Calls Try.prog 3 args W fun e W' => ∃ v, e = .returned v ∧ Rows.leaseSpansSpec.post enc Try.prog Try.f3 false true false false W args v W' := by
  have hW0 := hW
  obtain ⟨p, q, hA, hV, hpq, hz, hn⟩ := hW
  have hA0 : DataW.TrodAll enc Try.prog W 0 (fun _ => true) true Try.f3.params.toList args.toList ds p := hA
  obtain ⟨vs, σ', h1, h2⟩ := walk enc W base args ds p hval hA0
  have hds : ∃ x0, ds = [x0] := by
    rw [Try.params3] at hA
    obtain ⟨v0, vs0, d0, ds0, p0, q0, hargs0, hds0, hp0, h0, r0⟩ := trodAll_cons hA
    obtain ⟨hargs1, hds1, hp1⟩ := trodAll_nil r0
    exact ⟨d0, by rw [hds0, hds1]⟩
  refine (calls_of Tab.table Try.checked.mixed h1 h2).mono ?_
  rintro e W' ⟨rfl, hb⟩
  refine ⟨_, rfl, law_post laid (by decide +kernel) rfl rfl (by kernel_rfl) ?_ hW0 hb⟩
  obtain ⟨x0, rfl⟩ := hds
  rfl
set_option maxRecDepth 100000 in
theorem lifted (os : Os) (started : os.Started) (H : Type) (enc : TypeId × Value → H) :
    ReturnsInHanded {} Try.checked os 3 .any (Rows.leaseSpansSpec.pre6 enc Try.prog Try.f3 Rows.leaseSpansRow.domain false) (Rows.leaseSpansSpec.post enc Try.prog Try.f3 false true false false) := by
  refine returnsInHanded_of_change (C := Try.checked) own started (by kernel_rfl) Try.func3
    (ChangeSpec.witness6 (enc := enc) (C := Try.checked) false ⟨#[], #[.int .i64 0], []⟩ 8 (by kernel_rfl) (by kernel_rfl) (by kernel_rfl) (by kernel_rfl)) ?_
  intro W base args ds gs before hval hW _ _
  exact contract H enc W base args ds gs before hval hW
theorem proved : Rows.LeaseSpansSaid :=
  OpenClaim.holds_of_wide 3 Try.f3 rfl rfl rfl rfl rfl rfl rfl ⟨rfl, rfl, rfl, rfl, rfl⟩ rfl rfl rfl rfl rfl (by kernel_rfl) Try.func3 (by kernel_rfl)
    (of_decide_eq_true (by kernel_rfl)) (by unfold Func.isWrapper; first | (rw [if_pos (by decide +kernel)]; kernel_rfl) | (rw [if_neg (by decide +kernel)]; exact ⟨rfl, rfl⟩))
    (fun os started H enc _ => lifted os started H enc)
end Go.Proofs.Ytkikechhkohglaa.leaseSpans
