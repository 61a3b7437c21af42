/-
  'WalKnown': whatever the input, the law's call returns true, and each argument reads behind the call as it read before.
  Conditions: none but the statement's own.
-/
import Derived.Test.YthofgjcnnklibaaAbT
import Derived.Test.YthofgjcnnklibaaAb20
import Derived.Test.YthofgjcnnklibaaAbS
import Derived.Test.YthofgjcnnklibaaWalKnownP6
import Derived.WalkKit
import Derived.ProofKit
import Derived.OpenShut
namespace Go.Proofs.Ythofgjcnnklibaa.walKnown
open Go.ChangeShapes Go.WideShapes Go.ChangeAt Go.RowKit Go.Ab
theorem own : ownKnob Try.prog.godebug = none := by kernel_rfl
theorem laid : laidOutB Try.prog = true := by kernel_rfl
theorem last : (stFin Tab.a4.results (exec (callY Tab.tbl 299) noYl 299 (dropC 1 (dropC 1 (dropC 1 (dropC 1 (dropC 2 (dropC 2 (Tab.a4.code))))))) (initEnv e6) s6)).map (·.1) = some (.sc (.bool true)) := by kernel_rfl
theorem run : (callN Tab.tbl 300 4 [] St.empty).map (·.1) = some (.sc (.bool true)) := by
  show (callY Tab.tbl 300 noYl 4 [] St.empty).map (·.1) = _
  rw [s_call (af := Tab.a4) rfl (by simp [Tab.a4])]
  rw [Go.Ab.part b1 l1 p1, Go.Ab.part b2 l2 p2, Go.Ab.part b3 l3 p3, Go.Ab.part b4 l4 p4, Go.Ab.part b5 l5 p5, Go.Ab.part b6 l6 p6]
  exact last
theorem walk {H : Type} (enc : TypeId × Value → H) (W : World) (base : Nat) (args : Array Value) (ds : List (DataW H)) (p : List MemPlace)
    (_hval : ∀ (j : Nat) t v, Try.f4.params[j]? = some t → args[j]? = some v → Value.okWide Try.prog W .any base t v)
    (hA : DataW.TrodAll enc Try.prog W 0 (fun _ => true) true Try.f4.params.toList args.toList ds p) :
    ∃ vs σ', callN Tab.tbl 300 4 vs St.empty = some (.sc (.bool true), σ') ∧ RvL (Gh.of W) W vs args.toList := by
  rw [Try.params4] at hA
  obtain ⟨h, -, -⟩ := trodAll_nil hA
  have hr := run
  rw [Option.map_eq_some_iff] at hr
  obtain ⟨⟨v, σ'⟩, h1, h2⟩ := hr
  exact ⟨[], σ', by rw [h1]; simp only at h2; rw [h2], by rw [h]; exact RvL.nil⟩
set_option maxRecDepth 100000 in
theorem contract (H : Type) (enc : TypeId × Value → H) (W : World) (base : Nat) (args : Array Value) (ds gs : List (DataW H)) (before : List MemPlace)
    (hval : ∀ (j : Nat) t v, Try.f4.params[j]? = some t → args[j]? = some v → Value.okWide Try.prog W .any base t v)
    (hW : DataW.Whole enc Try.prog Try.f4.params.toList Rows.walKnownSpec.vars false W args.toList ds gs before) :
    Calls Try.prog 4 args W fun e W' => ∃ v, e = .returned v ∧ Rows.walKnownSpec.post enc Try.prog Try.f4 false true false false W args v W' := by
  have hW0 := hW
  obtain ⟨p, q, hA, hV, hpq, hz, hn⟩ := hW
  have hA0 : DataW.TrodAll enc Try.prog W 0 (fun _ => true) true Try.f4.params.toList args.toList ds p := hA
  obtain ⟨vs, σ', h1, h2⟩ := walk enc W base args ds p hval hA0
  have hds : ds = [] := by
    rw [Try.params4] at hA
    obtain ⟨hargs0, hds0, hp0⟩ := trodAll_nil hA
    exact hds0
  refine (calls_of Tab.table Try.checked.mixed h1 h2).mono ?_
  rintro e W' ⟨rfl, hb⟩
  refine ⟨_, rfl, law_post laid (by decide +kernel) rfl rfl (by kernel_rfl) ?_ hW0 hb⟩
  subst hds
  rfl
set_option maxRecDepth 100000 in
theorem lifted (os : Os) (started : os.Started) (H : Type) (enc : TypeId × Value → H) :
    ReturnsInHanded {} Try.checked os 4 .any (Rows.walKnownSpec.pre6 enc Try.prog Try.f4 Rows.walKnownRow.domain false) (Rows.walKnownSpec.post enc Try.prog Try.f4 false true false false) := by
  refine returnsInHanded_of_change (C := Try.checked) own started (by kernel_rfl) Try.func4
    (ChangeSpec.witness6 (enc := enc) (C := Try.checked) false ⟨#[], #[], []⟩ 8 (by kernel_rfl) (by kernel_rfl) (by kernel_rfl) (by kernel_rfl)) ?_
  intro W base args ds gs before hval hW _ _
  exact contract H enc W base args ds gs before hval hW
theorem proved : Rows.WalKnownSaid :=
  OpenClaim.holds_of_wide 4 Try.f4 rfl rfl rfl rfl rfl rfl rfl ⟨rfl, rfl, rfl, rfl, rfl⟩ rfl rfl rfl rfl rfl (by kernel_rfl) Try.func4 (by kernel_rfl)
    (of_decide_eq_true (by kernel_rfl)) (by unfold Func.isWrapper; first | (rw [if_pos (by decide +kernel)]; kernel_rfl) | (rw [if_neg (by decide +kernel)]; exact ⟨rfl, rfl⟩))
    (fun os started H enc _ => lifted os started H enc)
end Go.Proofs.Ythofgjcnnklibaa.walKnown
