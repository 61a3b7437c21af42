/- 'GatewayPlays': whatever the input, the law's call returns true, and each argument reads behind the call as it read before. Conditions: none but the statement's own. -/
import Derived.Test.YtehdjkikcfeiaaaGreatAbT
import Derived.Test.YtehdjkikcfeiaaaGreatAb20
import Derived.Test.YtehdjkikcfeiaaaGreatAbA
import Derived.Test.YtehdjkikcfeiaaaGreatAbA
import Derived.Test.YtehdjkikcfeiaaaGreatGateP
import Derived.WalkKit
import Derived.ProofKit
import Derived.OpenShut
import Derived.SizedLaws
namespace Go.Proofs.YtehdjkikcfeiaaaGreat.gatewayPlays
open Go.ChangeShapes Go.WideShapes Go.ChangeAt Go.RowKit Go.Ab
theorem own : ownKnob Tryz.prog.godebug = none := by kernel_rfl
theorem laid : laidOutB Tryz.prog = true := by kernel_rfl
theorem run' (x : V) (w : ArgA (.sl jn.stT) x) : good (callN Tab.tbl 9223372036854776000 3 [x] St.empty) = true := jn.plays_good x w
set_option linter.unusedSimpArgs false
theorem tys : Tryz.f3.params.toList.mapM (tyA Tryz.prog) = some [.sl (.agg [.int .i64, .int .i64, .agg [.int .u8, .int .i64, .int .i64, .int .i64, .int .i64, .int .i64, .int .i64, .int .i64, .bool, .sl (.agg [.int .i64, .str]), .int .i64, .int .i64, .str, .int .i64, .agg [.int .i64, .int .i64], .int .i64, .int .i64, .int .i64, .int .u8, .int .i64, .int .i64], .str, .int .i64])] := by kernel_rfl
theorem run_all : ∀ xs, ArgAs [.sl (.agg [.int .i64, .int .i64, .agg [.int .u8, .int .i64, .int .i64, .int .i64, .int .i64, .int .i64, .int .i64, .int .i64, .bool, .sl (.agg [.int .i64, .str]), .int .i64, .int .i64, .str, .int .i64, .agg [.int .i64, .int .i64], .int .i64, .int .i64, .int .i64, .int .u8, .int .i64, .int .i64], .str, .int .i64])] xs → good (callN Tab.tbl 9223372036854776000 3 xs St.empty) = true := by
 intro xs h
 simp only [ArgAs, ArgA_int, ArgA_bool, ArgA_str, ArgA_agg, Arg, ArgL] at h
 obtain ⟨x0, y0, rfl, w0, rfl⟩ := h
 try simp only [List.cons_append, List.nil_append, List.append_nil]
 exact run' x0 w0
set_option maxRecDepth 100000 in
theorem walk {H : Type} (enc : TypeId × Value → H) (W : World) (base : Nat) (args : Array Value) (ds : List (DataW H)) (p : List MemPlace)
  (hval : ∀ (j : Nat) t v, Tryz.f3.params[j]? = some t → args[j]? = some v → Value.okWide Tryz.prog W .any base t v)
  (hA : DataW.TrodAll enc Tryz.prog W 0 (fun _ => true) true Tryz.f3.params.toList args.toList ds p) (hw : ∀ y ∈ DataW.weightsEach Tryz.prog Tryz.f3.params.toList ds, y ≤ reachBytes) :
  ∃ vs σ', callN Tab.tbl 9223372036854776000 3 vs St.empty = some (.sc (.bool true), σ') ∧ RvL (Gh.of W) W vs args.toList := walk_of tys run_all hval hA hw
set_option maxRecDepth 100000 in
theorem contract (H : Type) (enc : TypeId × Value → H) (W : World) (base : Nat) (args : Array Value) (ds gs : List (DataW H)) (before : List MemPlace)
  (hval : ∀ (j : Nat) t v, Tryz.f3.params[j]? = some t → args[j]? = some v → Value.okWide Tryz.prog W .any base t v)
  (hW : DataW.Whole enc Tryz.prog Tryz.f3.params.toList Rows.gatewayPlaysSpec.vars false W args.toList ds gs before) (hz : (DataW.weightsEach Tryz.prog (Tryz.f3.params.toList ++ Rows.gatewayPlaysSpec.plain.varTypes Tryz.prog) (ds ++ gs)).all (· ≤ reachBytes) = true) :
  Calls Tryz.prog 3 args W fun e W' => ∃ v, e = .returned v ∧ Rows.gatewayPlaysSpec.post enc Tryz.prog Tryz.f3 false true false false W args v W' := by
 have hW0 := hW
 obtain ⟨p, q, hA, hV, hpq, _, hn⟩ := hW
 have hA0 : DataW.TrodAll enc Tryz.prog W 0 (fun _ => true) true Tryz.f3.params.toList args.toList ds p := hA
 obtain ⟨vs, σ', h1, h2⟩ := walk enc W base args ds p hval hA0 (wt_of hA0 hz)
 have hds : ∃ x0, ds = [x0] := by
  rw [Tryz.params3] at hA
  obtain ⟨v0, vs0, d0, ds0, p0, q0, hargs0, hds0, hp0, h0, r0⟩ := trodAll_cons hA
  obtain ⟨hargs1, hds1, hp1⟩ := trodAll_nil r0
  exact ⟨d0, by rw [hds0, hds1]⟩
 refine (calls_of Tab.table Tryz.checked.mixed h1 h2).mono ?_
 rintro e W' ⟨rfl, hb⟩
 refine ⟨_, rfl, law_post laid (by decide +kernel) rfl rfl (by kernel_rfl) ?_ hW0 hb⟩
 obtain ⟨x0, rfl⟩ := hds
 rfl
set_option maxRecDepth 100000 in
theorem lifted (os : Os) (started : os.Started) (H : Type) (enc : TypeId × Value → H) :
  ReturnsInHanded {} Tryz.checked os 3 .any (Rows.gatewayPlaysSpec.pre6 enc Tryz.prog Tryz.f3 Rows.gatewayPlaysRow.domain false) (Rows.gatewayPlaysSpec.post enc Tryz.prog Tryz.f3 false true false false) := by
 refine returnsInHanded_of_change_sized (C := Tryz.checked) own started (by kernel_rfl) Tryz.func3
  (ChangeSpec.witness6 (enc := enc) (C := Tryz.checked) false ⟨#[], #[.slice none 0 0], []⟩ 8 (by kernel_rfl) (by kernel_rfl) (by kernel_rfl) (by kernel_rfl)) ?_
 intro W base args ds gs before hval hW _ hz _
 exact contract H enc W base args ds gs before hval hW hz
theorem proved : Rows.GatewayPlaysSaid :=
 OpenClaim.holds_of_wide 3 Tryz.f3 rfl rfl rfl rfl rfl rfl rfl ⟨rfl, rfl, rfl, rfl, rfl⟩ rfl rfl rfl rfl rfl (by kernel_rfl) Tryz.func3 (by kernel_rfl)
  (of_decide_eq_true (by kernel_rfl)) (by unfold Func.isWrapper; first | (rw [if_pos (by decide +kernel)]; kernel_rfl) | (rw [if_neg (by decide +kernel)]; exact ⟨rfl, rfl⟩))
  (fun os started H enc _ => lifted os started H enc)
end Go.Proofs.YtehdjkikcfeiaaaGreat.gatewayPlays
