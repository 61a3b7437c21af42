/-
  'NetNone': whatever the input, the law's call returns true, and each argument reads behind the call as it read before.
  Conditions: none but the statement's own.
-/
import Derived.Test.YthnfafphaopnkaaAbT
import Derived.Test.YthnfafphaopnkaaAb20
import Derived.Test.YthnfafphaopnkaaAbA
import Derived.Test.YthnfafphaopnkaaNetNoneR
import Derived.WalkKit
import Derived.ProofKit
import Derived.OpenShut
namespace Go.Proofs.Ythnfafphaopnkaa.netNone
open Go.ChangeShapes Go.WideShapes Go.ChangeAt Go.RowKit Go.Ab
theorem own : ownKnob Try.prog.godebug = none := by kernel_rfl
theorem laid : laidOutB Try.prog = true := by kernel_rfl
set_option linter.unusedSimpArgs false
theorem tys : Try.f8.params.toList.mapM (tyA Try.prog) = some [.flat (.agg [.int .i64, .int .i64, .int .i64, .str])] := by kernel_rfl
theorem run_all : ∀ xs, ArgAs [.flat (.agg [.int .i64, .int .i64, .int .i64, .str])] xs → good (callN Tab.tbl 80 8 xs St.empty) = true := by
  intro xs h
  simp only [ArgAs, ArgA, Arg, ArgL] at h
  obtain ⟨z0, y0, rfl, ⟨c0, rfl, ⟨a1, b1, rfl, ⟨n2, rfl, w2⟩, ⟨a3, b3, rfl, ⟨n4, rfl, w4⟩, ⟨a5, b5, rfl, ⟨n6, rfl, w6⟩, ⟨a7, b7, rfl, ⟨n8, rfl, w8⟩, rfl⟩⟩⟩⟩⟩, rfl⟩ := h
  try simp only [List.cons_append, List.nil_append, List.append_nil]
  exact run' n2 w2 n4 w4 n6 w6 n8 w8
set_option maxRecDepth 100000 in
theorem walk {H : Type} (enc : TypeId × Value → H) (W : World) (base : Nat) (args : Array Value) (ds : List (DataW H)) (p : List MemPlace)
    (hval : ∀ (j : Nat) t v, Try.f8.params[j]? = some t → args[j]? = some v → Value.okWide Try.prog W .any base t v)
    (hA : DataW.TrodAll enc Try.prog W 0 (fun _ => true) true Try.f8.params.toList args.toList ds p) :
    ∃ vs σ', callN Tab.tbl 80 8 vs St.empty = some (.sc (.bool true), σ') ∧ RvL (Gh.of W) W vs args.toList := walk_of tys run_all hval hA
set_option maxRecDepth 100000 in
theorem contract (H : Type) (enc : TypeId × Value → H) (W : World) (base : Nat) (args : Array Value) (ds gs : List (DataW H)) (before : List MemPlace)
    (hval : ∀ (j : Nat) t v, Try.f8.params[j]? = some t → args[j]? = some v → Value.okWide Try.prog W .any base t v)
    (hW : DataW.Whole enc Try.prog Try.f8.params.toList Rows.netNoneSpec.vars false W args.toList ds gs before) :
    Calls Try.prog 8 args W fun e W' => ∃ v, e = .returned v ∧ Rows.netNoneSpec.post enc Try.prog Try.f8 false true false false W args v W' := by
  have hW0 := hW
  obtain ⟨p, q, hA, hV, hpq, hz, hn⟩ := hW
  have hA0 : DataW.TrodAll enc Try.prog W 0 (fun _ => true) true Try.f8.params.toList args.toList ds p := hA
  obtain ⟨vs, σ', h1, h2⟩ := walk enc W base args ds p hval hA0
  have hds : ∃ x0, ds = [x0] := by
    rw [Try.params8] at hA
    obtain ⟨v0, vs0, d0, ds0, p0, q0, hargs0, hds0, hp0, h0, r0⟩ := trodAll_cons hA
    obtain ⟨hargs1, hds1, hp1⟩ := trodAll_nil r0
    exact ⟨d0, by rw [hds0, hds1]⟩
  refine (calls_of Tab.table Try.checked.mixed h1 h2).mono ?_
  rintro e W' ⟨rfl, hb⟩
  refine ⟨_, rfl, law_post laid (by decide +kernel) rfl rfl (by kernel_rfl) ?_ hW0 hb⟩
  obtain ⟨x0, rfl⟩ := hds
  rfl
set_option maxRecDepth 100000 in
theorem lifted (os : Os) (started : os.Started) (H : Type) (enc : TypeId × Value → H) :
    ReturnsInHanded {} Try.checked os 8 .any (Rows.netNoneSpec.pre6 enc Try.prog Try.f8 Rows.netNoneRow.domain false) (Rows.netNoneSpec.post enc Try.prog Try.f8 false true false false) := by
  refine returnsInHanded_of_change (C := Try.checked) own started (by kernel_rfl) Try.func8
    (ChangeSpec.witness6 (enc := enc) (C := Try.checked) false ⟨#[], #[.agg #[.int .i64 0, .int .i64 0, .int .i64 0, .string ⟨#[]⟩]], []⟩ 8 (by kernel_rfl) (by kernel_rfl) (by kernel_rfl) (by kernel_rfl)) ?_
  intro W base args ds gs before hval hW _ _
  exact contract H enc W base args ds gs before hval hW
theorem proved : Rows.NetNoneSaid :=
  OpenClaim.holds_of_wide 8 Try.f8 rfl rfl rfl rfl rfl rfl rfl ⟨rfl, rfl, rfl, rfl, rfl⟩ rfl rfl rfl rfl rfl (by kernel_rfl) Try.func8 (by kernel_rfl)
    (of_decide_eq_true (by kernel_rfl)) (by unfold Func.isWrapper; first | (rw [if_pos (by decide +kernel)]; kernel_rfl) | (rw [if_neg (by decide +kernel)]; exact ⟨rfl, rfl⟩))
    (fun os started H enc _ => lifted os started H enc)
end Go.Proofs.Ythnfafphaopnkaa.netNone
