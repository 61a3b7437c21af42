/-
  'VoteKept': whatever the input, the law's call returns true, and each argument reads behind the call as it read before.
  Conditions: none but the statement's own.
-/
import Derived.Test.YtllkidpebjgkeaaAbT
import Derived.Test.YtllkidpebjgkeaaAb20
import Derived.Test.YtllkidpebjgkeaaAbA
import Derived.Test.YtllkidpebjgkeaaAbA
import Derived.Test.YtllkidpebjgkeaaVoteK
import Derived.WalkKit
import Derived.ProofKit
import Derived.OpenShut
import Derived.SizedLaws
namespace Go.Proofs.Ytllkidpebjgkeaa.voteKept
open Go.ChangeShapes Go.WideShapes Go.ChangeAt Go.RowKit Go.Ab
theorem own : ownKnob Try.prog.godebug = none := by kernel_rfl
theorem laid : laidOutB Try.prog = true := by kernel_rfl
theorem run' (x : V) (w : ArgA (.sl (.agg [.int .i64, .int .i64])) x) (p : Int) (wp : (Lit.int .i64 p).wf = true) (kv : V) (wk : ArgA (.sl (.int .i64)) kv) (n : Int) (wn : (Lit.int .i64 n).wf = true) : good (callN Tab.tbl 9223372036854776000 4 [x, .sc (.int .i64 p), kv, .sc (.int .i64 n)] St.empty) = true := vt.kept_good x w p wp kv wk n wn
set_option linter.unusedSimpArgs false
theorem tys : Try.f4.params.toList.mapM (tyA Try.prog) = some [.sl (.agg [.int .i64, .int .i64]), .flat (.int .i64), .sl (.int .i64), .flat (.int .i64)] := by kernel_rfl
theorem run_all : ∀ xs, ArgAs [.sl (.agg [.int .i64, .int .i64]), .flat (.int .i64), .sl (.int .i64), .flat (.int .i64)] xs → good (callN Tab.tbl 9223372036854776000 4 xs St.empty) = true := by
  intro xs h
  simp only [ArgAs, ArgA_int, ArgA_bool, ArgA_str, ArgA_agg, Arg, ArgL] at h
  obtain ⟨x0, y0, rfl, w0, ⟨z1, y1, rfl, ⟨n1, e1, w1⟩, ⟨x2, y2, rfl, w2, ⟨z3, y3, rfl, ⟨n3, e3, w3⟩, rfl⟩⟩⟩⟩ := h
  simp only [List.cons.injEq, and_true] at e1
  subst e1
  simp only [List.cons.injEq, and_true] at e3
  subst e3
  try simp only [List.cons_append, List.nil_append, List.append_nil]
  exact run' x0 w0 n1 w1 x2 w2 n3 w3
set_option maxRecDepth 100000 in
theorem walk {H : Type} (enc : TypeId × Value → H) (W : World) (base : Nat) (args : Array Value) (ds : List (DataW H)) (p : List MemPlace)
    (hval : ∀ (j : Nat) t v, Try.f4.params[j]? = some t → args[j]? = some v → Value.okWide Try.prog W .any base t v)
    (hA : DataW.TrodAll enc Try.prog W 0 (fun _ => true) true Try.f4.params.toList args.toList ds p) (hw : ∀ y ∈ DataW.weightsEach Try.prog Try.f4.params.toList ds, y ≤ reachBytes) :
    ∃ vs σ', callN Tab.tbl 9223372036854776000 4 vs St.empty = some (.sc (.bool true), σ') ∧ RvL (Gh.of W) W vs args.toList := walk_of tys run_all hval hA hw
set_option maxRecDepth 100000 in
theorem contract (H : Type) (enc : TypeId × Value → H) (W : World) (base : Nat) (args : Array Value) (ds gs : List (DataW H)) (before : List MemPlace)
    (hval : ∀ (j : Nat) t v, Try.f4.params[j]? = some t → args[j]? = some v → Value.okWide Try.prog W .any base t v)
    (hW : DataW.Whole enc Try.prog Try.f4.params.toList Rows.voteKeptSpec.vars false W args.toList ds gs before) (hz : (DataW.weightsEach Try.prog (Try.f4.params.toList ++ Rows.voteKeptSpec.plain.varTypes Try.prog) (ds ++ gs)).all (· ≤ reachBytes) = true) :
    Calls Try.prog 4 args W fun e W' => ∃ v, e = .returned v ∧ Rows.voteKeptSpec.post enc Try.prog Try.f4 false true false false W args v W' := by
  have hW0 := hW
  obtain ⟨p, q, hA, hV, hpq, _, hn⟩ := hW
  have hA0 : DataW.TrodAll enc Try.prog W 0 (fun _ => true) true Try.f4.params.toList args.toList ds p := hA
  obtain ⟨vs, σ', h1, h2⟩ := walk enc W base args ds p hval hA0 (wt_of hA0 hz)
  have hds : ∃ x0 x1 x2 x3, ds = [x0, x1, x2, x3] := by
    rw [Try.params4] at hA
    obtain ⟨v0, vs0, d0, ds0, p0, q0, hargs0, hds0, hp0, h0, r0⟩ := trodAll_cons hA
    obtain ⟨v1, vs1, d1, ds1, p1, q1, hargs1, hds1, hp1, h1, r1⟩ := trodAll_cons r0
    obtain ⟨v2, vs2, d2, ds2, p2, q2, hargs2, hds2, hp2, h2, r2⟩ := trodAll_cons r1
    obtain ⟨v3, vs3, d3, ds3, p3, q3, hargs3, hds3, hp3, h3, r3⟩ := trodAll_cons r2
    obtain ⟨hargs4, hds4, hp4⟩ := trodAll_nil r3
    exact ⟨d0, d1, d2, d3, by rw [hds0, hds1, hds2, hds3, hds4]⟩
  refine (calls_of Tab.table Try.checked.mixed h1 h2).mono ?_
  rintro e W' ⟨rfl, hb⟩
  refine ⟨_, rfl, law_post laid (by decide +kernel) rfl rfl (by kernel_rfl) ?_ hW0 hb⟩
  obtain ⟨x0, x1, x2, x3, rfl⟩ := hds
  rfl
set_option maxRecDepth 100000 in
theorem lifted (os : Os) (started : os.Started) (H : Type) (enc : TypeId × Value → H) :
    ReturnsInHanded {} Try.checked os 4 .any (Rows.voteKeptSpec.pre6 enc Try.prog Try.f4 Rows.voteKeptRow.domain false) (Rows.voteKeptSpec.post enc Try.prog Try.f4 false true false false) := by
  refine returnsInHanded_of_change_sized (C := Try.checked) own started (by kernel_rfl) Try.func4
    (ChangeSpec.witness6 (enc := enc) (C := Try.checked) false ⟨#[], #[.slice none 0 0, .int .i64 0, .slice none 0 0, .int .i64 0], []⟩ 8 (by kernel_rfl) (by kernel_rfl) (by kernel_rfl) (by kernel_rfl)) ?_
  intro W base args ds gs before hval hW _ hz _
  exact contract H enc W base args ds gs before hval hW hz
theorem proved : Rows.VoteKeptSaid :=
  OpenClaim.holds_of_wide 4 Try.f4 rfl rfl rfl rfl rfl rfl rfl ⟨rfl, rfl, rfl, rfl, rfl⟩ rfl rfl rfl rfl rfl (by kernel_rfl) Try.func4 (by kernel_rfl)
    (of_decide_eq_true (by kernel_rfl)) (by unfold Func.isWrapper; first | (rw [if_pos (by decide +kernel)]; kernel_rfl) | (rw [if_neg (by decide +kernel)]; exact ⟨rfl, rfl⟩))
    (fun os started H enc _ => lifted os started H enc)
end Go.Proofs.Ytllkidpebjgkeaa.voteKept
