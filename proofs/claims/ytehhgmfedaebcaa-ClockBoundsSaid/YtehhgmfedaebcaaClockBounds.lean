/-
  'ClockBounds': whatever the input, the law's call returns true, and each argument reads behind the call as it read before.
  Conditions: none but the statement's own.
-/
import Derived.Test.YtehhgmfedaebcaaAbT
import Derived.Test.YtehhgmfedaebcaaAb20
import Derived.Test.YtehhgmfedaebcaaAbA
import Derived.Test.YtehhgmfedaebcaaClockBoundsR
import Derived.WalkKit
import Derived.ProofKit
import Derived.OpenShut
namespace Go.Proofs.Ytehhgmfedaebcaa.clockBounds
open Go.ChangeShapes Go.WideShapes Go.ChangeAt Go.RowKit Go.Ab
theorem own : ownKnob Try.prog.godebug = none := by kernel_rfl
theorem laid : laidOutB Try.prog = true := by kernel_rfl
theorem run' (r : Int) (_w0 : (Lit.int .i64 r).wf = true) (x : V) (w : ArgA (.sl (.agg [.int .i64, .int .i64, .int .i64])) x) (y : V) (w2 : ArgA (.sl (.agg [.int .i64, .int .i64, .int .i64])) y) : good (callN Tab.tbl 6000 12 [.sc (.int .i64 r), x, y] St.empty) = true := by
  obtain ⟨es, h1, _, h3, _⟩ := argA_sl w
  obtain ⟨es2, h4, _, h5, _⟩ := argA_sl w2
  refine run r x y es es2 h3 h5 (fun a ha => ?_) (fun a ha => ?_)
  · have h := h1 a ha
    simp only [Arg, ArgL] at h
    obtain ⟨a1, b1, rfl, ⟨n1, rfl, _⟩, ⟨a2, b2, rfl, ⟨n2, rfl, _⟩, ⟨a3, b3, rfl, ⟨n3, rfl, _⟩, rfl⟩⟩⟩ := h
    exact ⟨n1, n2, n3, rfl⟩
  · have h := h4 a ha
    simp only [Arg, ArgL] at h
    obtain ⟨a1, b1, rfl, ⟨n1, rfl, _⟩, ⟨a2, b2, rfl, ⟨n2, rfl, _⟩, ⟨a3, b3, rfl, ⟨n3, rfl, _⟩, rfl⟩⟩⟩ := h
    exact ⟨n1, n2, n3, rfl⟩
set_option linter.unusedSimpArgs false
theorem tys : Try.f12.params.toList.mapM (tyA Try.prog) = some [.flat (.int .i64), .sl (.agg [.int .i64, .int .i64, .int .i64]), .sl (.agg [.int .i64, .int .i64, .int .i64])] := by kernel_rfl
theorem run_all : ∀ xs, ArgAs [.flat (.int .i64), .sl (.agg [.int .i64, .int .i64, .int .i64]), .sl (.agg [.int .i64, .int .i64, .int .i64])] xs → good (callN Tab.tbl 6000 12 xs St.empty) = true := by
  intro xs h
  simp only [ArgAs, ArgA_int, ArgA_bool, ArgA_str, ArgA_agg, Arg, ArgL] at h
  obtain ⟨z0, y0, rfl, ⟨n0, e0, w0⟩, ⟨x1, y1, rfl, w1, ⟨x2, y2, rfl, w2, rfl⟩⟩⟩ := h
  simp only [List.cons.injEq, and_true] at e0
  subst e0
  try simp only [List.cons_append, List.nil_append, List.append_nil]
  exact run' n0 w0 x1 w1 x2 w2
theorem walk {H : Type} (enc : TypeId × Value → H) (W : World) (base : Nat) (args : Array Value) (ds : List (DataW H)) (p : List MemPlace)
    (hval : ∀ (j : Nat) t v, Try.f12.params[j]? = some t → args[j]? = some v → Value.okWide Try.prog W .any base t v)
    (hA : DataW.TrodAll enc Try.prog W 0 (fun _ => true) true Try.f12.params.toList args.toList ds p) :
    ∃ vs σ', callN Tab.tbl 6000 12 vs St.empty = some (.sc (.bool true), σ') ∧ RvL (Gh.of W) W vs args.toList := walk_of tys run_all hval hA
set_option maxRecDepth 100000 in
theorem contract (H : Type) (enc : TypeId × Value → H) (W : World) (base : Nat) (args : Array Value) (ds gs : List (DataW H)) (before : List MemPlace)
    (hval : ∀ (j : Nat) t v, Try.f12.params[j]? = some t → args[j]? = some v → Value.okWide Try.prog W .any base t v)
    (hW : DataW.Whole enc Try.prog Try.f12.params.toList Rows.clockBoundsSpec.vars false W args.toList ds gs before) :
    Calls Try.prog 12 args W fun e W' => ∃ v, e = .returned v ∧ Rows.clockBoundsSpec.post enc Try.prog Try.f12 false true false false W args v W' := by
  have hW0 := hW
  obtain ⟨p, q, hA, hV, hpq, hz, hn⟩ := hW
  have hA0 : DataW.TrodAll enc Try.prog W 0 (fun _ => true) true Try.f12.params.toList args.toList ds p := hA
  obtain ⟨vs, σ', h1, h2⟩ := walk enc W base args ds p hval hA0
  have hds : ∃ x0 x1 x2, ds = [x0, x1, x2] := by
    rw [Try.params12] at hA
    obtain ⟨v0, vs0, d0, ds0, p0, q0, hargs0, hds0, hp0, h0, r0⟩ := trodAll_cons hA
    obtain ⟨v1, vs1, d1, ds1, p1, q1, hargs1, hds1, hp1, h1, r1⟩ := trodAll_cons r0
    obtain ⟨v2, vs2, d2, ds2, p2, q2, hargs2, hds2, hp2, h2, r2⟩ := trodAll_cons r1
    obtain ⟨hargs3, hds3, hp3⟩ := trodAll_nil r2
    exact ⟨d0, d1, d2, by rw [hds0, hds1, hds2, hds3]⟩
  refine (calls_of Tab.table Try.checked.mixed h1 h2).mono ?_
  rintro e W' ⟨rfl, hb⟩
  refine ⟨_, rfl, law_post laid (by decide +kernel) rfl rfl (by kernel_rfl) ?_ hW0 hb⟩
  obtain ⟨x0, x1, x2, rfl⟩ := hds
  rfl
set_option maxRecDepth 100000 in
theorem lifted (os : Os) (started : os.Started) (H : Type) (enc : TypeId × Value → H) :
    ReturnsInHanded {} Try.checked os 12 .any (Rows.clockBoundsSpec.pre6 enc Try.prog Try.f12 Rows.clockBoundsRow.domain false) (Rows.clockBoundsSpec.post enc Try.prog Try.f12 false true false false) := by
  refine returnsInHanded_of_change (C := Try.checked) own started (by kernel_rfl) Try.func12
    (ChangeSpec.witness6 (enc := enc) (C := Try.checked) false ⟨#[], #[.int .i64 0, .slice none 0 0, .slice none 0 0], []⟩ 8 (by kernel_rfl) (by kernel_rfl) (by kernel_rfl) (by kernel_rfl)) ?_
  intro W base args ds gs before hval hW _ _
  exact contract H enc W base args ds gs before hval hW
theorem proved : Rows.ClockBoundsSaid :=
  OpenClaim.holds_of_wide 12 Try.f12 rfl rfl rfl rfl rfl rfl rfl ⟨rfl, rfl, rfl, rfl, rfl⟩ rfl rfl rfl rfl rfl (by kernel_rfl) Try.func12 (by kernel_rfl)
    (of_decide_eq_true (by kernel_rfl)) (by unfold Func.isWrapper; first | (rw [if_pos (by decide +kernel)]; kernel_rfl) | (rw [if_neg (by decide +kernel)]; exact ⟨rfl, rfl⟩))
    (fun os started H enc _ => lifted os started H enc)
end Go.Proofs.Ytehhgmfedaebcaa.clockBounds
