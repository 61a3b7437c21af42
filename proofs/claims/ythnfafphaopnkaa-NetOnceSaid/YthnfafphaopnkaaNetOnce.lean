/-
  'NetOnce': whatever the input, the law's call returns true, and each argument reads behind the call as it read before.
  Conditions: none but the statement's own.
-/
import Derived.Test.YthnfafphaopnkaaAbT
import Derived.Test.YthnfafphaopnkaaAb20
import Derived.Test.YthnfafphaopnkaaAbA
import Derived.Test.YthnfafphaopnkaaAbA
import Derived.Test.YthnfafphaopnkaaNetN
import Derived.WalkKit
import Derived.ProofKit
import Derived.OpenShut
import Derived.SizedLaws
namespace Go.Proofs.Ythnfafphaopnkaa.netOnce
open Go.ChangeShapes Go.WideShapes Go.ChangeAt Go.RowKit Go.Ab
theorem own : ownKnob Try.prog.godebug = none := by kernel_rfl
theorem laid : laidOutB Try.prog = true := by kernel_rfl
theorem run' (x : V) (w : ArgA (.sl (.agg [.int .i64, .int .i64, .int .i64, .str])) x) : good (callN Tab.tbl 9223372036854776000 6 [x] St.empty) = true := netR.run' x w
set_option linter.unusedSimpArgs false
theorem tys : Try.f6.params.toList.mapM (tyA Try.prog) = some [.sl (.agg [.int .i64, .int .i64, .int .i64, .str])] := by kernel_rfl
theorem run_all : ∀ xs, ArgAs [.sl (.agg [.int .i64, .int .i64, .int .i64, .str])] xs → good (callN Tab.tbl 9223372036854776000 6 xs St.empty) = true := by
  intro xs h
  simp only [ArgAs, ArgA_int, ArgA_bool, ArgA_str, ArgA_agg, Arg, ArgL] at h
  obtain ⟨x0, y0, rfl, w0, rfl⟩ := h
  try simp only [List.cons_append, List.nil_append, List.append_nil]
  exact run' x0 w0
set_option maxRecDepth 100000 in
theorem walk {H : Type} (enc : TypeId × Value → H) (W : World) (base : Nat) (args : Array Value) (ds : List (DataW H)) (p : List MemPlace)
    (hval : ∀ (j : Nat) t v, Try.f6.params[j]? = some t → args[j]? = some v → Value.okWide Try.prog W .any base t v)
    (hA : DataW.TrodAll enc Try.prog W 0 (fun _ => true) true Try.f6.params.toList args.toList ds p) (hw : ∀ y ∈ DataW.weightsEach Try.prog Try.f6.params.toList ds, y ≤ reachBytes) :
    ∃ vs σ', callN Tab.tbl 9223372036854776000 6 vs St.empty = some (.sc (.bool true), σ') ∧ RvL (Gh.of W) W vs args.toList := walk_of tys run_all hval hA hw
set_option maxRecDepth 100000 in
theorem contract (H : Type) (enc : TypeId × Value → H) (W : World) (base : Nat) (args : Array Value) (ds gs : List (DataW H)) (before : List MemPlace)
    (hval : ∀ (j : Nat) t v, Try.f6.params[j]? = some t → args[j]? = some v → Value.okWide Try.prog W .any base t v)
    (hW : DataW.Whole enc Try.prog Try.f6.params.toList Rows.netOnceSpec.vars false W args.toList ds gs before) (hz : (DataW.weightsEach Try.prog (Try.f6.params.toList ++ Rows.netOnceSpec.plain.varTypes Try.prog) (ds ++ gs)).all (· ≤ reachBytes) = true) :
    Calls Try.prog 6 args W fun e W' => ∃ v, e = .returned v ∧ Rows.netOnceSpec.post enc Try.prog Try.f6 false true false false W args v W' := by
  have hW0 := hW
  obtain ⟨p, q, hA, hV, hpq, _, hn⟩ := hW
  have hA0 : DataW.TrodAll enc Try.prog W 0 (fun _ => true) true Try.f6.params.toList args.toList ds p := hA
  obtain ⟨vs, σ', h1, h2⟩ := walk enc W base args ds p hval hA0 (wt_of hA0 hz)
  have hds : ∃ x0, ds = [x0] := by
    rw [Try.params6] at hA
    obtain ⟨v0, vs0, d0, ds0, p0, q0, hargs0, hds0, hp0, h0, r0⟩ := trodAll_cons hA
    obtain ⟨hargs1, hds1, hp1⟩ := trodAll_nil r0
    exact ⟨d0, by rw [hds0, hds1]⟩
  refine (calls_of Tab.table Try.checked.mixed h1 h2).mono ?_
  rintro e W' ⟨rfl, hb⟩
  refine ⟨_, rfl, law_post laid (by decide +kernel) rfl rfl (by kernel_rfl) ?_ hW0 hb⟩
  obtain ⟨x0, rfl⟩ := hds
  rfl
set_option maxRecDepth 100000 in
theorem lifted (os : Os) (started : os.Started) (H : Type) (enc : TypeId × Value → H) :
    ReturnsInHanded {} Try.checked os 6 .any (Rows.netOnceSpec.pre6 enc Try.prog Try.f6 Rows.netOnceRow.domain false) (Rows.netOnceSpec.post enc Try.prog Try.f6 false true false false) := by
  refine returnsInHanded_of_change_sized (C := Try.checked) own started (by kernel_rfl) Try.func6
    (ChangeSpec.witness6 (enc := enc) (C := Try.checked) false ⟨#[], #[.slice none 0 0], []⟩ 8 (by kernel_rfl) (by kernel_rfl) (by kernel_rfl) (by kernel_rfl)) ?_
  intro W base args ds gs before hval hW _ hz _
  exact contract H enc W base args ds gs before hval hW hz
theorem proved : Rows.NetOnceSaid :=
  OpenClaim.holds_of_wide 6 Try.f6 rfl rfl rfl rfl rfl rfl rfl ⟨rfl, rfl, rfl, rfl, rfl⟩ rfl rfl rfl rfl rfl (by kernel_rfl) Try.func6 (by kernel_rfl)
    (of_decide_eq_true (by kernel_rfl)) (by unfold Func.isWrapper; first | (rw [if_pos (by decide +kernel)]; kernel_rfl) | (rw [if_neg (by decide +kernel)]; exact ⟨rfl, rfl⟩))
    (fun os started H enc _ => lifted os started H enc)
end Go.Proofs.Ythnfafphaopnkaa.netOnce
