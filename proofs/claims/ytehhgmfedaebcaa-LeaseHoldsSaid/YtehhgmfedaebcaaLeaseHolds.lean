/-
  'LeaseHolds': whatever the input, the law's call returns true, and each argument reads behind the call as it read before.
  Conditions: none but the statement's own.
-/
import Derived.Test.YtehhgmfedaebcaaAbT
import Derived.Test.YtehhgmfedaebcaaAb20
import Derived.Test.YtehhgmfedaebcaaAbA
import Derived.Test.YtehhgmfedaebcaaLeaseHoldsR
import Derived.WalkKit
import Derived.ProofKit
import Derived.OpenShut
namespace Go.Proofs.Ytehhgmfedaebcaa.leaseHolds
open Go.ChangeShapes Go.WideShapes Go.ChangeAt Go.RowKit Go.Ab
theorem own : ownKnob Try.prog.godebug = none := by kernel_rfl
theorem laid : laidOutB Try.prog = true := by kernel_rfl
theorem tys : Try.f6.params.toList.mapM (tyA Try.prog) = some [.flat (.agg [.int .u8, .agg [.int .i64, .int .i64], .int .i64, .agg [.int .i64, .int .i64], .int .i64, .int .i64, .int .i64, .bool, .agg [.int .i64, .int .i64, .int .i64]]), .flat (.int .i64), .flat (.int .i64)] := by kernel_rfl
theorem run_all : ∀ xs, ArgAs [.flat (.agg [.int .u8, .agg [.int .i64, .int .i64], .int .i64, .agg [.int .i64, .int .i64], .int .i64, .int .i64, .int .i64, .bool, .agg [.int .i64, .int .i64, .int .i64]]), .flat (.int .i64), .flat (.int .i64)] xs → good (callN Tab.tbl 40 6 xs St.empty) = true := by
  intro xs h
  simp only [ArgAs, ArgA, Arg, ArgL] at h
  obtain ⟨z0, y0, rfl, ⟨c0, rfl, ⟨a1, b1, rfl, ⟨n2, rfl, w2⟩, ⟨a3, b3, rfl, ⟨a5, b5, rfl, ⟨n6, rfl, w6⟩, ⟨a7, b7, rfl, ⟨n8, rfl, w8⟩, rfl⟩⟩, ⟨a9, b9, rfl, ⟨n10, rfl, w10⟩, ⟨a11, b11, rfl, ⟨a13, b13, rfl, ⟨n14, rfl, w14⟩, ⟨a15, b15, rfl, ⟨n16, rfl, w16⟩, rfl⟩⟩, ⟨a17, b17, rfl, ⟨n18, rfl, w18⟩, ⟨a19, b19, rfl, ⟨n20, rfl, w20⟩, ⟨a21, b21, rfl, ⟨n22, rfl, w22⟩, ⟨a23, b23, rfl, ⟨n24, rfl⟩, ⟨a25, b25, rfl, ⟨a27, b27, rfl, ⟨n28, rfl, w28⟩, ⟨a29, b29, rfl, ⟨n30, rfl, w30⟩, ⟨a31, b31, rfl, ⟨n32, rfl, w32⟩, rfl⟩⟩⟩, rfl⟩⟩⟩⟩⟩⟩⟩⟩⟩⟩, ⟨z1, y1, rfl, ⟨n33, e33, w33⟩, ⟨z2, y2, rfl, ⟨n34, e34, w34⟩, rfl⟩⟩⟩ := h
  simp only [List.cons.injEq, and_true] at e33
  subst e33
  simp only [List.cons.injEq, and_true] at e34
  subst e34
  simp only [List.cons_append, List.nil_append, List.append_nil]
  exact run n2 n6 n8 n10 n14 n16 n18 n20 n22 n28 n30 n32 n33 n34 n24
theorem walk {H : Type} (enc : TypeId × Value → H) (W : World) (base : Nat) (args : Array Value) (ds : List (DataW H)) (p : List MemPlace)
    (hval : ∀ (j : Nat) t v, Try.f6.params[j]? = some t → args[j]? = some v → Value.okWide Try.prog W .any base t v)
    (hA : DataW.TrodAll enc Try.prog W 0 (fun _ => true) true Try.f6.params.toList args.toList ds p) :
    ∃ vs σ', callN Tab.tbl 40 6 vs St.empty = some (.sc (.bool true), σ') ∧ RvL (Gh.of W) W vs args.toList := walk_of tys run_all hval hA
set_option maxRecDepth 100000 in
theorem contract (H : Type) (enc : TypeId × Value → H) (W : World) (base : Nat) (args : Array Value) (ds gs : List (DataW H)) (before : List MemPlace)
    (hval : ∀ (j : Nat) t v, Try.f6.params[j]? = some t → args[j]? = some v → Value.okWide Try.prog W .any base t v)
    (hW : DataW.Whole enc Try.prog Try.f6.params.toList Rows.leaseHoldsSpec.vars false W args.toList ds gs before) :
    Calls Try.prog 6 args W fun e W' => ∃ v, e = .returned v ∧ Rows.leaseHoldsSpec.post enc Try.prog Try.f6 false true false false W args v W' := by
  have hW0 := hW
  obtain ⟨p, q, hA, hV, hpq, hz, hn⟩ := hW
  have hA0 : DataW.TrodAll enc Try.prog W 0 (fun _ => true) true Try.f6.params.toList args.toList ds p := hA
  obtain ⟨vs, σ', h1, h2⟩ := walk enc W base args ds p hval hA0
  have hds : ∃ x0 x1 x2, ds = [x0, x1, x2] := by
    rw [Try.params6] at hA
    obtain ⟨v0, vs0, d0, ds0, p0, q0, hargs0, hds0, hp0, h0, r0⟩ := trodAll_cons hA
    obtain ⟨v1, vs1, d1, ds1, p1, q1, hargs1, hds1, hp1, h1, r1⟩ := trodAll_cons r0
    obtain ⟨v2, vs2, d2, ds2, p2, q2, hargs2, hds2, hp2, h2, r2⟩ := trodAll_cons r1
    obtain ⟨hargs3, hds3, hp3⟩ := trodAll_nil r2
    exact ⟨d0, d1, d2, by rw [hds0, hds1, hds2, hds3]⟩
  refine (calls_of Tab.table Try.checked.mixed h1 h2).mono ?_
  rintro e W' ⟨rfl, hb⟩
  refine ⟨_, rfl, law_post laid (by decide +kernel) rfl rfl (by kernel_rfl) ?_ hW0 hb⟩
  obtain ⟨x0, x1, x2, rfl⟩ := hds
  rfl
set_option maxRecDepth 100000 in
theorem lifted (os : Os) (started : os.Started) (H : Type) (enc : TypeId × Value → H) :
    ReturnsInHanded {} Try.checked os 6 .any (Rows.leaseHoldsSpec.pre6 enc Try.prog Try.f6 Rows.leaseHoldsRow.domain false) (Rows.leaseHoldsSpec.post enc Try.prog Try.f6 false true false false) := by
  refine returnsInHanded_of_change (C := Try.checked) own started (by kernel_rfl) Try.func6
    (ChangeSpec.witness6 (enc := enc) (C := Try.checked) false ⟨#[], #[.agg #[.int .u8 0, .int .i64 0, .int .i64 0, .int .i64 0, .int .i64 0, .int .i64 0, .int .i64 0, .int .i64 0, .int .i64 0, .bool false, .int .i64 0, .int .i64 0, .int .i64 0], .int .i64 0, .int .i64 0], []⟩ 8 (by kernel_rfl) (by kernel_rfl) (by kernel_rfl) (by kernel_rfl)) ?_
  intro W base args ds gs before hval hW _ _
  exact contract H enc W base args ds gs before hval hW
theorem proved : Rows.LeaseHoldsSaid :=
  OpenClaim.holds_of_wide 6 Try.f6 rfl rfl rfl rfl rfl rfl rfl ⟨rfl, rfl, rfl, rfl, rfl⟩ rfl rfl rfl rfl rfl (by kernel_rfl) Try.func6 (by kernel_rfl)
    (of_decide_eq_true (by kernel_rfl)) (by unfold Func.isWrapper; first | (rw [if_pos (by decide +kernel)]; kernel_rfl) | (rw [if_neg (by decide +kernel)]; exact ⟨rfl, rfl⟩))
    (fun os started H enc _ => lifted os started H enc)
end Go.Proofs.Ytehhgmfedaebcaa.leaseHolds
