/-
  'DiskPower': whatever the input, the law's call returns true, and each argument reads behind the call as it read before.
  Conditions: none but the statement's own.
-/
import Derived.Test.YtkdfahmlcnbadaaAbT
import Derived.Test.YtkdfahmlcnbadaaAb20
import Derived.Test.YtkdfahmlcnbadaaAbA
import Derived.Test.YtkdfahmlcnbadaaDiskPowR
import Derived.WalkKit
import Derived.ProofKit
import Derived.OpenShut
namespace Go.Proofs.Ytkdfahmlcnbadaa.diskPower
open Go.ChangeShapes Go.WideShapes Go.ChangeAt Go.RowKit Go.Ab
theorem own : ownKnob Try.prog.godebug = none := by kernel_rfl
theorem laid : laidOutB Try.prog = true := by kernel_rfl
theorem run' (x : V) (w : ArgA (.sl dk.stT) x) (n : Int) (wn : (Lit.int .i64 n).wf = true) : good (callN Tab.tbl 9223372036854776000 4 [x, .sc (.int .i64 n)] St.empty) = true := dk.power_good x w n wn
set_option linter.unusedSimpArgs false
theorem tys : Try.f4.params.toList.mapM (tyA Try.prog) = some [.sl (.agg [.int .i64, .int .i64, .int .i64, .str, .sl (.int .i64)]), .flat (.int .i64)] := by kernel_rfl
theorem run_all : ∀ xs, ArgAs [.sl (.agg [.int .i64, .int .i64, .int .i64, .str, .sl (.int .i64)]), .flat (.int .i64)] xs → good (callN Tab.tbl 9223372036854776000 4 xs St.empty) = true := by
  intro xs h
  simp only [ArgAs, ArgA_int, ArgA_bool, ArgA_str, ArgA_agg, Arg, ArgL] at h
  obtain ⟨x0, y0, rfl, w0, ⟨z1, y1, rfl, ⟨n1, e1, w1⟩, rfl⟩⟩ := h
  simp only [List.cons.injEq, and_true] at e1
  subst e1
  try simp only [List.cons_append, List.nil_append, List.append_nil]
  exact run' x0 w0 n1 w1
set_option maxRecDepth 100000 in
theorem walk {H : Type} (enc : TypeId × Value → H) (W : World) (base : Nat) (args : Array Value) (ds : List (DataW H)) (p : List MemPlace)
    (hval : ∀ (j : Nat) t v, Try.f4.params[j]? = some t → args[j]? = some v → Value.okWide Try.prog W .any base t v)
    (hA : DataW.TrodAll enc Try.prog W 0 (fun _ => true) true Try.f4.params.toList args.toList ds p) :
    ∃ vs σ', callN Tab.tbl 9223372036854776000 4 vs St.empty = some (.sc (.bool true), σ') ∧ RvL (Gh.of W) W vs args.toList := walk_of tys run_all hval hA
set_option maxRecDepth 100000 in
theorem contract (H : Type) (enc : TypeId × Value → H) (W : World) (base : Nat) (args : Array Value) (ds gs : List (DataW H)) (before : List MemPlace)
    (hval : ∀ (j : Nat) t v, Try.f4.params[j]? = some t → args[j]? = some v → Value.okWide Try.prog W .any base t v)
    (hW : DataW.Whole enc Try.prog Try.f4.params.toList Rows.diskPowerSpec.vars false W args.toList ds gs before) :
    Calls Try.prog 4 args W fun e W' => ∃ v, e = .returned v ∧ Rows.diskPowerSpec.post enc Try.prog Try.f4 false true false false W args v W' := by
  have hW0 := hW
  obtain ⟨p, q, hA, hV, hpq, hz, hn⟩ := hW
  have hA0 : DataW.TrodAll enc Try.prog W 0 (fun _ => true) true Try.f4.params.toList args.toList ds p := hA
  obtain ⟨vs, σ', h1, h2⟩ := walk enc W base args ds p hval hA0
  have hds : ∃ x0 x1, ds = [x0, x1] := by
    rw [Try.params4] at hA
    obtain ⟨v0, vs0, d0, ds0, p0, q0, hargs0, hds0, hp0, h0, r0⟩ := trodAll_cons hA
    obtain ⟨v1, vs1, d1, ds1, p1, q1, hargs1, hds1, hp1, h1, r1⟩ := trodAll_cons r0
    obtain ⟨hargs2, hds2, hp2⟩ := trodAll_nil r1
    exact ⟨d0, d1, by rw [hds0, hds1, hds2]⟩
  refine (calls_of Tab.table Try.checked.mixed h1 h2).mono ?_
  rintro e W' ⟨rfl, hb⟩
  refine ⟨_, rfl, law_post laid (by decide +kernel) rfl rfl (by kernel_rfl) ?_ hW0 hb⟩
  obtain ⟨x0, x1, rfl⟩ := hds
  rfl
set_option maxRecDepth 100000 in
theorem lifted (os : Os) (started : os.Started) (H : Type) (enc : TypeId × Value → H) :
    ReturnsInHanded {} Try.checked os 4 .any (Rows.diskPowerSpec.pre6 enc Try.prog Try.f4 Rows.diskPowerRow.domain false) (Rows.diskPowerSpec.post enc Try.prog Try.f4 false true false false) := by
  refine returnsInHanded_of_change (C := Try.checked) own started (by kernel_rfl) Try.func4
    (ChangeSpec.witness6 (enc := enc) (C := Try.checked) false ⟨#[], #[.slice none 0 0, .int .i64 0], []⟩ 8 (by kernel_rfl) (by kernel_rfl) (by kernel_rfl) (by kernel_rfl)) ?_
  intro W base args ds gs before hval hW _ _
  exact contract H enc W base args ds gs before hval hW
theorem proved : Rows.DiskPowerSaid :=
  OpenClaim.holds_of_wide 4 Try.f4 rfl rfl rfl rfl rfl rfl rfl ⟨rfl, rfl, rfl, rfl, rfl⟩ rfl rfl rfl rfl rfl (by kernel_rfl) Try.func4 (by kernel_rfl)
    (of_decide_eq_true (by kernel_rfl)) (by unfold Func.isWrapper; first | (rw [if_pos (by decide +kernel)]; kernel_rfl) | (rw [if_neg (by decide +kernel)]; exact ⟨rfl, rfl⟩))
    (fun os started H enc _ => lifted os started H enc)
end Go.Proofs.Ytkdfahmlcnbadaa.diskPower
