/-
  'NetTells': whatever the input, the law's call returns true, and each argument reads behind the call as it read before.
  Conditions: none but the statement's own.
-/
import Derived.Test.YthnfafphaopnkaaAbT
import Derived.Test.YthnfafphaopnkaaAb20
import Derived.Test.YthnfafphaopnkaaAbA
import Derived.Test.YthnfafphaopnkaaAbA
import Derived.Test.YthnfafphaopnkaaNetZ
import Derived.WalkKit
import Derived.ProofKit
import Derived.OpenShut
import Derived.SizedLaws
namespace Go.Proofs.Ythnfafphaopnkaa.netTells
open Go.ChangeShapes Go.WideShapes Go.ChangeAt Go.RowKit Go.Ab
theorem own : ownKnob Try.prog.godebug = none := by kernel_rfl
theorem laid : laidOutB Try.prog = true := by kernel_rfl
theorem run' (x : V) (w : ArgA (.sl (.agg [.int .i64, .int .i64, .int .i64, .str])) x) (l : Int) (wl : (Lit.int .i64 l).wf = true) : good (callN Tab.tbl 9223372036854776000 5 [x, .sc (.int .i64 l)] St.empty) = true := netR.tells_good x w l wl
set_option linter.unusedSimpArgs false
theorem tys : Try.f5.params.toList.mapM (tyA Try.prog) = some [.sl (.agg [.int .i64, .int .i64, .int .i64, .str]), .flat (.int .i64)] := by kernel_rfl
theorem run_all : ∀ xs, ArgAs [.sl (.agg [.int .i64, .int .i64, .int .i64, .str]), .flat (.int .i64)] xs → good (callN Tab.tbl 9223372036854776000 5 xs St.empty) = true := by
  intro xs h
  simp only [ArgAs, ArgA_int, ArgA_bool, ArgA_str, ArgA_agg, Arg, ArgL] at h
  obtain ⟨x0, y0, rfl, w0, ⟨z1, y1, rfl, ⟨n1, e1, w1⟩, rfl⟩⟩ := h
  simp only [List.cons.injEq, and_true] at e1
  subst e1
  try simp only [List.cons_append, List.nil_append, List.append_nil]
  exact run' x0 w0 n1 w1
set_option maxRecDepth 100000 in
theorem walk {H : Type} (enc : TypeId × Value → H) (W : World) (base : Nat) (args : Array Value) (ds : List (DataW H)) (p : List MemPlace)
    (hval : ∀ (j : Nat) t v, Try.f5.params[j]? = some t → args[j]? = some v → Value.okWide Try.prog W .any base t v)
    (hA : DataW.TrodAll enc Try.prog W 0 (fun _ => true) true Try.f5.params.toList args.toList ds p) (hw : ∀ y ∈ DataW.weightsEach Try.prog Try.f5.params.toList ds, y ≤ reachBytes) :
    ∃ vs σ', callN Tab.tbl 9223372036854776000 5 vs St.empty = some (.sc (.bool true), σ') ∧ RvL (Gh.of W) W vs args.toList := walk_of tys run_all hval hA hw
set_option maxRecDepth 100000 in
theorem contract (H : Type) (enc : TypeId × Value → H) (W : World) (base : Nat) (args : Array Value) (ds gs : List (DataW H)) (before : List MemPlace)
    (hval : ∀ (j : Nat) t v, Try.f5.params[j]? = some t → args[j]? = some v → Value.okWide Try.prog W .any base t v)
    (hW : DataW.Whole enc Try.prog Try.f5.params.toList Rows.netTellsSpec.vars false W args.toList ds gs before) (hz : (DataW.weightsEach Try.prog (Try.f5.params.toList ++ Rows.netTellsSpec.plain.varTypes Try.prog) (ds ++ gs)).all (· ≤ reachBytes) = true) :
    Calls Try.prog 5 args W fun e W' => ∃ v, e = .returned v ∧ Rows.netTellsSpec.post enc Try.prog Try.f5 false true false false W args v W' := by
  have hW0 := hW
  obtain ⟨p, q, hA, hV, hpq, _, hn⟩ := hW
  have hA0 : DataW.TrodAll enc Try.prog W 0 (fun _ => true) true Try.f5.params.toList args.toList ds p := hA
  obtain ⟨vs, σ', h1, h2⟩ := walk enc W base args ds p hval hA0 (wt_of hA0 hz)
  have hds : ∃ x0 x1, ds = [x0, x1] := by
    rw [Try.params5] at hA
    obtain ⟨v0, vs0, d0, ds0, p0, q0, hargs0, hds0, hp0, h0, r0⟩ := trodAll_cons hA
    obtain ⟨v1, vs1, d1, ds1, p1, q1, hargs1, hds1, hp1, h1, r1⟩ := trodAll_cons r0
    obtain ⟨hargs2, hds2, hp2⟩ := trodAll_nil r1
    exact ⟨d0, d1, by rw [hds0, hds1, hds2]⟩
  refine (calls_of Tab.table Try.checked.mixed h1 h2).mono ?_
  rintro e W' ⟨rfl, hb⟩
  refine ⟨_, rfl, law_post laid (by decide +kernel) rfl rfl (by kernel_rfl) ?_ hW0 hb⟩
  obtain ⟨x0, x1, rfl⟩ := hds
  rfl
set_option maxRecDepth 100000 in
theorem lifted (os : Os) (started : os.Started) (H : Type) (enc : TypeId × Value → H) :
    ReturnsInHanded {} Try.checked os 5 .any (Rows.netTellsSpec.pre6 enc Try.prog Try.f5 Rows.netTellsRow.domain false) (Rows.netTellsSpec.post enc Try.prog Try.f5 false true false false) := by
  refine returnsInHanded_of_change_sized (C := Try.checked) own started (by kernel_rfl) Try.func5
    (ChangeSpec.witness6 (enc := enc) (C := Try.checked) false ⟨#[], #[.slice none 0 0, .int .i64 0], []⟩ 8 (by kernel_rfl) (by kernel_rfl) (by kernel_rfl) (by kernel_rfl)) ?_
  intro W base args ds gs before hval hW _ hz _
  exact contract H enc W base args ds gs before hval hW hz
theorem proved : Rows.NetTellsSaid :=
  OpenClaim.holds_of_wide 5 Try.f5 rfl rfl rfl rfl rfl rfl rfl ⟨rfl, rfl, rfl, rfl, rfl⟩ rfl rfl rfl rfl rfl (by kernel_rfl) Try.func5 (by kernel_rfl)
    (of_decide_eq_true (by kernel_rfl)) (by unfold Func.isWrapper; first | (rw [if_pos (by decide +kernel)]; kernel_rfl) | (rw [if_neg (by decide +kernel)]; exact ⟨rfl, rfl⟩))
    (fun os started H enc _ => lifted os started H enc)
end Go.Proofs.Ythnfafphaopnkaa.netTells
