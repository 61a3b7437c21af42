/- From an abstract run to a row: what a law's call comes to, and that its arguments read as they did. -/
import Derived.Test.YtehdjkikcfeiaaaGreatAb17
import Derived.Carry
import Derived.ProofKit
import Derived.OpenShut
namespace Go.Ab
open Go.RowKit Go.ChangeShapes
section
def World.len (w : World) (b : Nat) : Nat := match w.heap[b]? with | some (.cells arr _ _) => arr.size | _ => 0
def Gh.of (w : World) : Gh := { ob := fun _ => none, tk := fun _ => none, fr := World.len w, prot := fun b => b < w.heap.size, lp := fun _ => none }
theorem St.get_empty (o : Nat) : St.empty.get o = none := by
 cases h : St.empty.get o with
 | none => rfl
 | some x => have := St.get_lt h; exact absurd this (Nat.not_lt_zero _)
theorem rs_of (w : World) : Rs (Gh.of w) St.empty w := by
 refine ⟨fun o x h => (by cases h), fun o x h => (by cases h), fun o x h => (by cases h), fun b hb => ?_, fun b hb => hb, fun o x h => ?_, fun o o' x x' b h => ?_⟩
 · have e : w.heap[b]? = none := Array.getElem?_eq_none hb
   show World.len w b = 0
   simp [World.len, e]
 · rw [St.get_empty] at h; cases h
 · rw [St.get_empty] at h; cases h
theorem below_of {w w' : World} {G' : Gh} (e : Ext (Gh.of w) w G' w') : Below w.heap.size w w' :=
 ⟨e.below.os, e.below.tape, e.below.output, e.below.size, fun k hk => e.below.block k hk⟩
variable {P : Program} {mu : TypeId → Bool}
theorem calls_of {tbl : FuncId → Option AF} (ht : Table P mu tbl) (hm : P.follows .mixedOrders = true) {n f : Nat} {args : List V} {σ' : St} (h : callN tbl n f args St.empty = some (.sc (.bool true), σ')) {w : World} {vargs : Array Value} (ha : RvL (Gh.of w) w args vargs.toList) :
  Calls P f vargs w fun e w' => e = .returned (.bool true) ∧ Below w.heap.size w w' := by
 obtain ⟨_, h2⟩ := (callN_good ht hm n).fn f args St.empty _ σ' h
 have := h2 (Gh.of w) w vargs.toList trivial (rs_of w) ha
 refine Calls.mono (by simpa using this) ?_
 rintro e w' ⟨G', v, rfl, _, h3, h4⟩
 exact ⟨by rw [scv h4]; rfl, below_of h3⟩
variable {H : Type} {enc : TypeId × Value → H}
theorem trodAll_stays (hl : laidOutB P = true) {W W' : World} (hb : Below W.heap.size W W') {sp : Nat → Bool} : ∀ {ts : List TypeId} {vs : List Value} {ds : List (DataW H)} {ps : List MemPlace}, (∀ t ∈ ts, P.readableRec t = true ∧ t < P.types.size) →
  DataW.TrodAll enc P W 0 (fun _ => true) true ts vs ds ps → (∀ x ∈ ps, x.block < W.heap.size) → (∀ x ∈ ps, sp x.block = true) → DataW.TrodAll enc P W' 0 sp true ts vs ds ps
 | [], vs, ds, ps, _, h, _, _ => by
  obtain ⟨rfl, rfl, rfl⟩ := trodAll_nil h
  exact trodAll_mk0
 | t :: ts, vs, ds, ps, hr, h, hlt, hsp => by
  obtain ⟨v, vs', d, ds', p, q, rfl, rfl, rfl, h1, h2⟩ := trodAll_cons h
  have hrt := hr t (by simp)
  exact ⟨p, q, WideElems.Trod_stays hl hrt.1 hrt.2 h1 (fun x hx => hb.same (hlt x (by simp [hx]))) (fun x hx => hsp x (by simp [hx])),
   trodAll_stays hl hb (fun t ht => hr t (by simp [ht])) h2 (fun x hx => hlt x (by simp [hx])) (fun x hx => hsp x (by simp [hx])), rfl⟩
theorem law_post {f : Func} {s : ChangeSpec} {apart fresh handsOn again : Bool} {W W' : World} {args : Array Value} {ds gs : List (DataW H)} {before : List MemPlace} {tb : TypeId}
  (hl : laidOutB P = true) (hr : ∀ t ∈ f.params.toList, P.readableRec t = true ∧ t < P.types.size) (hvars : s.vars = []) (hres : f.resultTypes = #[tb]) (htb : P.underlying tb = some .bool)
  (hfn : s.fn H ds = { results := [.lit (.bool true)], args := ds })
  (hW : DataW.Whole enc P f.params.toList s.vars apart W args.toList ds gs before) (hb : Below W.heap.size W W') : s.post enc P f apart fresh handsOn again W args (.bool true) W' := by
 have hold : ∀ p ∈ before, (fun b => decide (b < W.heap.size)) p.block = true := fun p hp => by simpa using hW.lt p hp
 have hlt : ∀ p ∈ before, p.block < W.heap.size := fun p hp => hW.lt p hp
 have hW' := hW
 obtain ⟨p, q, hA, hV, hpq, hz, hn⟩ := hW
 rw [hvars] at hV
 obtain ⟨rfl, rfl⟩ := trodVars_none hV
 rw [List.append_nil] at hpq
 subst hpq
 have hargs : ∀ sp : Nat → Bool, (∀ x ∈ before, sp x.block = true) → DataW.TrodAll enc P W' 0 sp true f.params.toList args.toList (s.fn H (ds ++ [])).args before := by
  intro sp hsp
  rw [List.append_nil, hfn]
  exact trodAll_stays hl hb hr hA hlt hsp
 have hrs : ∀ (b : Nat) (sp : Nat → Bool) (hd : Bool), DataW.TrodAll enc P W' b sp hd f.resultTypes.toList ((Value.bool true).resultList f.resultTypes.size) (s.fn H (ds ++ [])).results [] := by
  intro b sp hd
  rw [List.append_nil, hfn, hres]
  exact trodAll_cons_mk (shut_bool htb _) trodAll_mk0
 have hvs : ∀ sp : Nat → Bool, DataW.TrodVars enc P W' sp s.vars (s.fn H (ds ++ [])).vars [] := by
  intro sp
  rw [List.append_nil, hfn, hvars]
  rfl
 refine ⟨ds, [], before, [], before, [], hW', hrs _ _ _, hargs _ hold, hvs _, World.keptBut_mono (fun p hp => ⟨hp, ?_⟩) (hb.frame (· ∈ before)), fun _ => ?_⟩
 · exact Or.inr (Or.inl hp)
 · refine ⟨ok_one hres rfl (okWide_bool_mk htb _), _, _, ([] ++ before) ++ [], ⟨[] ++ before, [], trodAll_append (hargs _ (fun _ _ => rfl)) (hrs _ _ _), hvs _, rfl, ?_, ?_⟩, ?_⟩
   · intro b off hp
     have hp' : MemPlace.cell b off ∈ before := by simpa using hp
     rw [hb.frozen (p := ⟨b, off, none⟩) (hlt _ hp')]
     exact hz b off hp'
   · intro ha
     have := hn ha
     simpa using this
   · intro p hp _
     simpa using hp
end
end Go.Ab
