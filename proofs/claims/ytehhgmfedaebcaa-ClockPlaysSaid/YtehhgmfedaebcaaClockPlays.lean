/-
  'ClockPlays': whatever the input, the law's call returns true, and each argument reads behind the call as it read before.
  Conditions: none but the statement's own.
-/
import Derived.Test.YtehhgmfedaebcaaAbT
import Derived.Test.YtehhgmfedaebcaaAb20
import Derived.Test.YtehhgmfedaebcaaAbA
import Derived.Test.YtehhgmfedaebcaaClockPlaysR
import Derived.WalkKit
import Derived.ProofKit
import Derived.OpenShut
namespace Go.Proofs.Ytehhgmfedaebcaa.clockPlays
open Go.ChangeShapes Go.WideShapes Go.ChangeAt Go.RowKit Go.Ab
theorem own : ownKnob Try.prog.godebug = none := by kernel_rfl
theorem laid : laidOutB Try.prog = true := by kernel_rfl
theorem run' (n0 : Int) (_w0 : (Lit.int .i64 n0).wf = true) (x : V) (w : ArgA (.sl (.agg [.int .i64, .int .i64])) x) : good (callN Tab.tbl 6000 9 [.sc (.int .i64 n0), x] St.empty) = true := by
  obtain ⟨es, h1, _, h3, _⟩ := argA_sl w
  refine run n0 x es h3 fun a ha => ?_
  have h := h1 a ha
  simp only [Arg, ArgL] at h
  obtain ⟨a1, b1, rfl, ⟨n1, rfl, _⟩, ⟨a2, b2, rfl, ⟨n2, rfl, _⟩, rfl⟩⟩ := h
  exact ⟨n1, n2, rfl⟩
set_option linter.unusedSimpArgs false
theorem tys : Try.f9.params.toList.mapM (tyA Try.prog) = some [.flat (.int .i64), .sl (.agg [.int .i64, .int .i64])] := by kernel_rfl
theorem run_all : ∀ xs, ArgAs [.flat (.int .i64), .sl (.agg [.int .i64, .int .i64])] xs → good (callN Tab.tbl 6000 9 xs St.empty) = true := by
  intro xs h
  simp only [ArgAs, ArgA_int, ArgA_bool, ArgA_str, ArgA_agg, Arg, ArgL] at h
  obtain ⟨z0, y0, rfl, ⟨n0, e0, w0⟩, ⟨x1, y1, rfl, w1, rfl⟩⟩ := h
  simp only [List.cons.injEq, and_true] at e0
  subst e0
  try simp only [List.cons_append, List.nil_append, List.append_nil]
  exact run' n0 w0 x1 w1
theorem walk {H : Type} (enc : TypeId × Value → H) (W : World) (base : Nat) (args : Array Value) (ds : List (DataW H)) (p : List MemPlace)
    (hval : ∀ (j : Nat) t v, Try.f9.params[j]? = some t → args[j]? = some v → Value.okWide Try.prog W .any base t v)
    (hA : DataW.TrodAll enc Try.prog W 0 (fun _ => true) true Try.f9.params.toList args.toList ds p) :
    ∃ vs σ', callN Tab.tbl 6000 9 vs St.empty = some (.sc (.bool true), σ') ∧ RvL (Gh.of W) W vs args.toList := walk_of tys run_all hval hA
set_option maxRecDepth 100000 in
theorem contract (H : Type) (enc : TypeId × Value → H) (W : World) (base : Nat) (args : Array Value) (ds gs : List (DataW H)) (before : List MemPlace)
    (hval : ∀ (j : Nat) t v, Try.f9.params[j]? = some t → args[j]? = some v → Value.okWide Try.prog W .any base t v)
    (hW : DataW.Whole enc Try.prog Try.f9.params.toList Rows.clockPlaysSpec.vars false W args.toList ds gs before) :
    Calls Try.prog 9 args W fun e W' => ∃ v, e = .returned v ∧ Rows.clockPlaysSpec.post enc Try.prog Try.f9 false true false false W args v W' := by
  have hW0 := hW
  obtain ⟨p, q, hA, hV, hpq, hz, hn⟩ := hW
  have hA0 : DataW.TrodAll enc Try.prog W 0 (fun _ => true) true Try.f9.params.toList args.toList ds p := hA
  obtain ⟨vs, σ', h1, h2⟩ := walk enc W base args ds p hval hA0
  have hds : ∃ x0 x1, ds = [x0, x1] := by
    rw [Try.params9] at hA
    obtain ⟨v0, vs0, d0, ds0, p0, q0, hargs0, hds0, hp0, h0, r0⟩ := trodAll_cons hA
    obtain ⟨v1, vs1, d1, ds1, p1, q1, hargs1, hds1, hp1, h1, r1⟩ := trodAll_cons r0
    obtain ⟨hargs2, hds2, hp2⟩ := trodAll_nil r1
    exact ⟨d0, d1, by rw [hds0, hds1, hds2]⟩
  refine (calls_of Tab.table Try.checked.mixed h1 h2).mono ?_
  rintro e W' ⟨rfl, hb⟩
  refine ⟨_, rfl, law_post laid (by decide +kernel) rfl rfl (by kernel_rfl) ?_ hW0 hb⟩
  obtain ⟨x0, x1, rfl⟩ := hds
  rfl
set_option maxRecDepth 100000 in
theorem lifted (os : Os) (started : os.Started) (H : Type) (enc : TypeId × Value → H) :
    ReturnsInHanded {} Try.checked os 9 .any (Rows.clockPlaysSpec.pre6 enc Try.prog Try.f9 Rows.clockPlaysRow.domain false) (Rows.clockPlaysSpec.post enc Try.prog Try.f9 false true false false) := by
  refine returnsInHanded_of_change (C := Try.checked) own started (by kernel_rfl) Try.func9
    (ChangeSpec.witness6 (enc := enc) (C := Try.checked) false ⟨#[], #[.int .i64 0, .slice none 0 0], []⟩ 8 (by kernel_rfl) (by kernel_rfl) (by kernel_rfl) (by kernel_rfl)) ?_
  intro W base args ds gs before hval hW _ _
  exact contract H enc W base args ds gs before hval hW
theorem proved : Rows.ClockPlaysSaid :=
  OpenClaim.holds_of_wide 9 Try.f9 rfl rfl rfl rfl rfl rfl rfl ⟨rfl, rfl, rfl, rfl, rfl⟩ rfl rfl rfl rfl rfl (by kernel_rfl) Try.func9 (by kernel_rfl)
    (of_decide_eq_true (by kernel_rfl)) (by unfold Func.isWrapper; first | (rw [if_pos (by decide +kernel)]; kernel_rfl) | (rw [if_neg (by decide +kernel)]; exact ⟨rfl, rfl⟩))
    (fun os started H enc _ => lifted os started H enc)
end Go.Proofs.Ytehhgmfedaebcaa.clockPlays
