/-
  'NetCopies': whatever the input, the law's call returns true, and each argument reads behind the call as it read before.
  Conditions: none but the statement's own.
-/
import Derived.Test.YthnfafphaopnkaaAbT
import Derived.Test.YthnfafphaopnkaaAb20
import Derived.Test.YthnfafphaopnkaaAbA
import Derived.Test.YthnfafphaopnkaaNetCopiesR
import Derived.WalkKit
import Derived.ProofKit
import Derived.OpenShut
namespace Go.Proofs.Ythnfafphaopnkaa.netCopies
open Go.ChangeShapes Go.WideShapes Go.ChangeAt Go.RowKit Go.Ab
theorem own : ownKnob Try.prog.godebug = none := by kernel_rfl
theorem laid : laidOutB Try.prog = true := by kernel_rfl
theorem run' (x : V) (w : ArgA (.sl (.agg [.int .i64, .int .i64, .int .i64, .str])) x) (y : V) (w2 : ArgA (.sl (.agg [.int .i64, .int .i64, .int .i64, .str])) y) (z : V) (w3 : ArgA (.sl (.agg [.int .i64, .int .i64, .int .i64, .str])) z) : good (callN Tab.tbl 9223372036854776000 7 [x, y, z] St.empty) = true := netR.copies_run x w y w2 z w3
set_option linter.unusedSimpArgs false
theorem tys : Try.f7.params.toList.mapM (tyA Try.prog) = some [.sl (.agg [.int .i64, .int .i64, .int .i64, .str]), .sl (.agg [.int .i64, .int .i64, .int .i64, .str]), .sl (.agg [.int .i64, .int .i64, .int .i64, .str])] := by kernel_rfl
theorem run_all : ∀ xs, ArgAs [.sl (.agg [.int .i64, .int .i64, .int .i64, .str]), .sl (.agg [.int .i64, .int .i64, .int .i64, .str]), .sl (.agg [.int .i64, .int .i64, .int .i64, .str])] xs → good (callN Tab.tbl 9223372036854776000 7 xs St.empty) = true := by
  intro xs h
  simp only [ArgAs, ArgA_int, ArgA_bool, ArgA_str, ArgA_agg, Arg, ArgL] at h
  obtain ⟨x0, y0, rfl, w0, ⟨x1, y1, rfl, w1, ⟨x2, y2, rfl, w2, rfl⟩⟩⟩ := h
  try simp only [List.cons_append, List.nil_append, List.append_nil]
  exact run' x0 w0 x1 w1 x2 w2
set_option maxRecDepth 100000 in
theorem walk {H : Type} (enc : TypeId × Value → H) (W : World) (base : Nat) (args : Array Value) (ds : List (DataW H)) (p : List MemPlace)
    (hval : ∀ (j : Nat) t v, Try.f7.params[j]? = some t → args[j]? = some v → Value.okWide Try.prog W .any base t v)
    (hA : DataW.TrodAll enc Try.prog W 0 (fun _ => true) true Try.f7.params.toList args.toList ds p) :
    ∃ vs σ', callN Tab.tbl 9223372036854776000 7 vs St.empty = some (.sc (.bool true), σ') ∧ RvL (Gh.of W) W vs args.toList := walk_of tys run_all hval hA
set_option maxRecDepth 100000 in
theorem contract (H : Type) (enc : TypeId × Value → H) (W : World) (base : Nat) (args : Array Value) (ds gs : List (DataW H)) (before : List MemPlace)
    (hval : ∀ (j : Nat) t v, Try.f7.params[j]? = some t → args[j]? = some v → Value.okWide Try.prog W .any base t v)
    (hW : DataW.Whole enc Try.prog Try.f7.params.toList Rows.netCopiesSpec.vars false W args.toList ds gs before) :
    Calls Try.prog 7 args W fun e W' => ∃ v, e = .returned v ∧ Rows.netCopiesSpec.post enc Try.prog Try.f7 false true false false W args v W' := by
  have hW0 := hW
  obtain ⟨p, q, hA, hV, hpq, hz, hn⟩ := hW
  have hA0 : DataW.TrodAll enc Try.prog W 0 (fun _ => true) true Try.f7.params.toList args.toList ds p := hA
  obtain ⟨vs, σ', h1, h2⟩ := walk enc W base args ds p hval hA0
  have hds : ∃ x0 x1 x2, ds = [x0, x1, x2] := by
    rw [Try.params7] at hA
    obtain ⟨v0, vs0, d0, ds0, p0, q0, hargs0, hds0, hp0, h0, r0⟩ := trodAll_cons hA
    obtain ⟨v1, vs1, d1, ds1, p1, q1, hargs1, hds1, hp1, h1, r1⟩ := trodAll_cons r0
    obtain ⟨v2, vs2, d2, ds2, p2, q2, hargs2, hds2, hp2, h2, r2⟩ := trodAll_cons r1
    obtain ⟨hargs3, hds3, hp3⟩ := trodAll_nil r2
    exact ⟨d0, d1, d2, by rw [hds0, hds1, hds2, hds3]⟩
  refine (calls_of Tab.table Try.checked.mixed h1 h2).mono ?_
  rintro e W' ⟨rfl, hb⟩
  refine ⟨_, rfl, law_post laid (by decide +kernel) rfl rfl (by kernel_rfl) ?_ hW0 hb⟩
  obtain ⟨x0, x1, x2, rfl⟩ := hds
  rfl
set_option maxRecDepth 100000 in
theorem lifted (os : Os) (started : os.Started) (H : Type) (enc : TypeId × Value → H) :
    ReturnsInHanded {} Try.checked os 7 .any (Rows.netCopiesSpec.pre6 enc Try.prog Try.f7 Rows.netCopiesRow.domain false) (Rows.netCopiesSpec.post enc Try.prog Try.f7 false true false false) := by
  refine returnsInHanded_of_change (C := Try.checked) own started (by kernel_rfl) Try.func7
    (ChangeSpec.witness6 (enc := enc) (C := Try.checked) false ⟨#[], #[.slice none 0 0, .slice none 0 0, .slice none 0 0], []⟩ 8 (by kernel_rfl) (by kernel_rfl) (by kernel_rfl) (by kernel_rfl)) ?_
  intro W base args ds gs before hval hW _ _
  exact contract H enc W base args ds gs before hval hW
theorem proved : Rows.NetCopiesSaid :=
  OpenClaim.holds_of_wide 7 Try.f7 rfl rfl rfl rfl rfl rfl rfl ⟨rfl, rfl, rfl, rfl, rfl⟩ rfl rfl rfl rfl rfl (by kernel_rfl) Try.func7 (by kernel_rfl)
    (of_decide_eq_true (by kernel_rfl)) (by unfold Func.isWrapper; first | (rw [if_pos (by decide +kernel)]; kernel_rfl) | (rw [if_neg (by decide +kernel)]; exact ⟨rfl, rfl⟩))
    (fun os started H enc _ => lifted os started H enc)
end Go.Proofs.Ythnfafphaopnkaa.netCopies
