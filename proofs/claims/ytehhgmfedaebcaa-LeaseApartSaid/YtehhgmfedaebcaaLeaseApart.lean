/-
  'LeaseApart': whatever the input, the law's call returns true, and each argument reads behind the call as it read before.
  Conditions: none but the statement's own.
-/
import Derived.Test.YtehhgmfedaebcaaAbT
import Derived.Test.YtehhgmfedaebcaaAb20
import Derived.Test.YtehhgmfedaebcaaAbA
import Derived.Test.YtehhgmfedaebcaaLeaseApartR
import Derived.WalkKit
import Derived.ProofKit
import Derived.OpenShut
namespace Go.Proofs.Ytehhgmfedaebcaa.leaseApart
open Go.ChangeShapes Go.WideShapes Go.ChangeAt Go.RowKit Go.Ab
theorem own : ownKnob Try.prog.godebug = none := by kernel_rfl
theorem laid : laidOutB Try.prog = true := by kernel_rfl
theorem run' (r : Int) (_w0 : (Lit.int .i64 r).wf = true) (m : Int) (_w1 : (Lit.int .i64 m).wf = true) (a : Int) (_w2 : (Lit.int .i64 a).wf = true) (b : Int) (_w3 : (Lit.int .i64 b).wf = true) (x : V) (w : ArgA (.sl (.agg [.int .i64, .int .i64, .int .i64])) x) : good (callN Tab.tbl 1000 7 [.sc (.int .i64 r), .sc (.int .i64 m), .sc (.int .i64 a), .sc (.int .i64 b), x] St.empty) = true := by
  obtain ⟨es, h1, _, h3, _⟩ := argA_sl w
  refine run r m a b x es h3 fun a ha => ?_
  have h := h1 a ha
  simp only [Arg, ArgL] at h
  obtain ⟨a1, b1, rfl, ⟨n1, rfl, _⟩, ⟨a2, b2, rfl, ⟨n2, rfl, _⟩, ⟨a3, b3, rfl, ⟨n3, rfl, _⟩, rfl⟩⟩⟩ := h
  exact ⟨n1, n2, n3, rfl⟩
set_option linter.unusedSimpArgs false
theorem tys : Try.f7.params.toList.mapM (tyA Try.prog) = some [.flat (.int .i64), .flat (.int .i64), .flat (.int .i64), .flat (.int .i64), .sl (.agg [.int .i64, .int .i64, .int .i64])] := by kernel_rfl
theorem run_all : ∀ xs, ArgAs [.flat (.int .i64), .flat (.int .i64), .flat (.int .i64), .flat (.int .i64), .sl (.agg [.int .i64, .int .i64, .int .i64])] xs → good (callN Tab.tbl 1000 7 xs St.empty) = true := by
  intro xs h
  simp only [ArgAs, ArgA_int, ArgA_bool, ArgA_str, ArgA_agg, Arg, ArgL] at h
  obtain ⟨z0, y0, rfl, ⟨n0, e0, w0⟩, ⟨z1, y1, rfl, ⟨n1, e1, w1⟩, ⟨z2, y2, rfl, ⟨n2, e2, w2⟩, ⟨z3, y3, rfl, ⟨n3, e3, w3⟩, ⟨x4, y4, rfl, w4, rfl⟩⟩⟩⟩⟩ := h
  simp only [List.cons.injEq, and_true] at e0
  subst e0
  simp only [List.cons.injEq, and_true] at e1
  subst e1
  simp only [List.cons.injEq, and_true] at e2
  subst e2
  simp only [List.cons.injEq, and_true] at e3
  subst e3
  try simp only [List.cons_append, List.nil_append, List.append_nil]
  exact run' n0 w0 n1 w1 n2 w2 n3 w3 x4 w4
theorem walk {H : Type} (enc : TypeId × Value → H) (W : World) (base : Nat) (args : Array Value) (ds : List (DataW H)) (p : List MemPlace)
    (hval : ∀ (j : Nat) t v, Try.f7.params[j]? = some t → args[j]? = some v → Value.okWide Try.prog W .any base t v)
    (hA : DataW.TrodAll enc Try.prog W 0 (fun _ => true) true Try.f7.params.toList args.toList ds p) :
    ∃ vs σ', callN Tab.tbl 1000 7 vs St.empty = some (.sc (.bool true), σ') ∧ RvL (Gh.of W) W vs args.toList := walk_of tys run_all hval hA
set_option maxRecDepth 100000 in
theorem contract (H : Type) (enc : TypeId × Value → H) (W : World) (base : Nat) (args : Array Value) (ds gs : List (DataW H)) (before : List MemPlace)
    (hval : ∀ (j : Nat) t v, Try.f7.params[j]? = some t → args[j]? = some v → Value.okWide Try.prog W .any base t v)
    (hW : DataW.Whole enc Try.prog Try.f7.params.toList Rows.leaseApartSpec.vars false W args.toList ds gs before) :
    Calls Try.prog 7 args W fun e W' => ∃ v, e = .returned v ∧ Rows.leaseApartSpec.post enc Try.prog Try.f7 false true false false W args v W' := by
  have hW0 := hW
  obtain ⟨p, q, hA, hV, hpq, hz, hn⟩ := hW
  have hA0 : DataW.TrodAll enc Try.prog W 0 (fun _ => true) true Try.f7.params.toList args.toList ds p := hA
  obtain ⟨vs, σ', h1, h2⟩ := walk enc W base args ds p hval hA0
  have hds : ∃ x0 x1 x2 x3 x4, ds = [x0, x1, x2, x3, x4] := by
    rw [Try.params7] at hA
    obtain ⟨v0, vs0, d0, ds0, p0, q0, hargs0, hds0, hp0, h0, r0⟩ := trodAll_cons hA
    obtain ⟨v1, vs1, d1, ds1, p1, q1, hargs1, hds1, hp1, h1, r1⟩ := trodAll_cons r0
    obtain ⟨v2, vs2, d2, ds2, p2, q2, hargs2, hds2, hp2, h2, r2⟩ := trodAll_cons r1
    obtain ⟨v3, vs3, d3, ds3, p3, q3, hargs3, hds3, hp3, h3, r3⟩ := trodAll_cons r2
    obtain ⟨v4, vs4, d4, ds4, p4, q4, hargs4, hds4, hp4, h4, r4⟩ := trodAll_cons r3
    obtain ⟨hargs5, hds5, hp5⟩ := trodAll_nil r4
    exact ⟨d0, d1, d2, d3, d4, by rw [hds0, hds1, hds2, hds3, hds4, hds5]⟩
  refine (calls_of Tab.table Try.checked.mixed h1 h2).mono ?_
  rintro e W' ⟨rfl, hb⟩
  refine ⟨_, rfl, law_post laid (by decide +kernel) rfl rfl (by kernel_rfl) ?_ hW0 hb⟩
  obtain ⟨x0, x1, x2, x3, x4, rfl⟩ := hds
  rfl
set_option maxRecDepth 100000 in
theorem lifted (os : Os) (started : os.Started) (H : Type) (enc : TypeId × Value → H) :
    ReturnsInHanded {} Try.checked os 7 .any (Rows.leaseApartSpec.pre6 enc Try.prog Try.f7 Rows.leaseApartRow.domain false) (Rows.leaseApartSpec.post enc Try.prog Try.f7 false true false false) := by
  refine returnsInHanded_of_change (C := Try.checked) own started (by kernel_rfl) Try.func7
    (ChangeSpec.witness6 (enc := enc) (C := Try.checked) false ⟨#[], #[.int .i64 0, .int .i64 0, .int .i64 0, .int .i64 0, .slice none 0 0], []⟩ 8 (by kernel_rfl) (by kernel_rfl) (by kernel_rfl) (by kernel_rfl)) ?_
  intro W base args ds gs before hval hW _ _
  exact contract H enc W base args ds gs before hval hW
theorem proved : Rows.LeaseApartSaid :=
  OpenClaim.holds_of_wide 7 Try.f7 rfl rfl rfl rfl rfl rfl rfl ⟨rfl, rfl, rfl, rfl, rfl⟩ rfl rfl rfl rfl rfl (by kernel_rfl) Try.func7 (by kernel_rfl)
    (of_decide_eq_true (by kernel_rfl)) (by unfold Func.isWrapper; first | (rw [if_pos (by decide +kernel)]; kernel_rfl) | (rw [if_neg (by decide +kernel)]; exact ⟨rfl, rfl⟩))
    (fun os started H enc _ => lifted os started H enc)
end Go.Proofs.Ytehhgmfedaebcaa.leaseApart
