/- Code and calls. -/
import Derived.Test.YtehdjkikcfeiaaaGreatAbH
namespace Go.Ab
open Go.RowKit
section
variable {P : Program} {mu : TypeId → Bool}
def cCode (P : Program) (mu : TypeId → Bool) (n : Nat) (top : Bool) : Code → Option AC
 | .skip => some .skip
 | .label _ => some .skip
 | .region _ ops draw => if draw then (cDraw P mu n ops).map (.region true) else (ops.toList.mapM (cOper P mu n ops)).map (.region false)
 | .seq a b => (cCode P mu n top a).bind fun a => (cCode P mu n top b).map fun b => .seq a b
 | .cond c a b => (cOpd c).bind fun c => (cCode P mu n top a).bind fun a => (cCode P mu n top b).map fun b => .cond c a b
 | .block i b => (cCode P mu n top b).map (.block i)
 | .loop b => (cCode P mu n top b).map .loop
 | .rangeFunc g ps x y => if top && ps.toList.all (fun p => decide (p < n)) then (cOpd g).bind fun g => (cCode P mu n false x).bind fun x => (cCode P mu n false y).map fun y => .rangeFn g ps.toList x y else none
 | .exit i => some (.exit i)
 | .ret => some .ret
 | _ => none
def Ex.to : Ex → Exit
 | .normal => .normal
 | .exit i => .exit i
 | .ret => .ret
variable {call : CallF}
theorem draw_ok {I : Gh → World → Prop} (hg : Good P I call) {fr : Option Nat} (hm : P.follows .mixedOrders = true) {n id : Nat} {ops : Array Oper} {aos : List AOper} {ρ ρ' : Env} {σ σ' : St} {G : Gh} {w : World} {a : Act} {Q : Exit → Act → World → Prop}
  (hc : cDraw P mu n ops = some aos) (hrun : runDraw call aos ρ σ = some (ρ', σ')) (hI : I G w) (hs : Rs G σ w) (hr : RE G w ρ a.tmps) (hn : a.tmps.size = n) (hK : After G w σ' ρ' n a (Q .normal)) :
  (Code.region id ops true).wpIn (Fr fr) 0 P Q a w := by
 obtain ⟨C, hd⟩ := cDraw_ok hc
 have F := drawF hd
 simp only [runDraw, Option.bind_eq_some_iff] at hrun
 obtain ⟨⟨steps, ss, r⟩, h1, h2⟩ := hrun
 simp only at h2
 split at h2
 · rename_i hal
   cases h2
   have T := trace_ok h1
   refine wpIn_region_any hm ?_
   obtain ⟨g1, g2⟩ := hs.drew
   have hr' := hr.ext g2
   have hK' : After G w.drew σ' ρ' n a (Q .normal) := hK.ext g2 rfl
   have hnl : ∀ i, ¬ Lst (Array.replicate ops.size false) i := by
    intro i
    unfold Lst
    simp only [Array.getD_eq_getD_getElem?, Array.getElem?_replicate]
    split <;> simp
   have inv : Inv ops aos ρ G w.drew a n steps ss (Array.replicate ops.size false) 0 (fun _ => none) G a w.drew :=
    ⟨by simp, fun i j _ hi => absurd hi (hnl i), fun e _ he => absurd he (Nat.not_lt_zero _), Nat.zero_le _, ⟨σ, T.first, g1⟩, Ext.refl _ _, fun _ h => h, fun i b h => (by cases h), fun e _ hl => absurd hl (hnl e), fun i j b h => (by cases h),
     fun b h => .inl h, fun t _ => ⟨fun i s _ _ hl => absurd hl (hnl i), fun _ => hr' t⟩, hn, rfl⟩
   exact any_ok hg (hg.ext hI g2) F C T hal hK' ops.size _ 0 _ G a w.drew inv (fun e _ _ => hnl e) (by simp)
 · cases h2
def mark (D : Nat) : Deferred := { target := .collected D, args := #[] }
theorem Gh.withProt_self {G' : Gh} {p : Nat → Prop} (h : G'.prot = p) : G'.withProt p = G' := by subst h; rfl
structure Aft (top : Bool) (G : Gh) (w : World) (a : Act) (Ds : List Nat) (G' : Gh) (w' : World) (a' : Act) : Prop where
 ext : Ext G w (G'.withProt G.prot) w'
 prot : ∀ b, G'.prot b ↔ G.prot b ∨ b ∈ Ds
 nodup : Ds.Nodup
 new : ∀ D ∈ Ds, w.heap.size ≤ D ∧ w'.heap[D]? = some (.deferred (some []))
 top : top = false → Ds = []
 defers : a'.defers = Ds.map mark ++ a.defers
theorem Aft.protSub {top : Bool} {G G' : Gh} {w w' : World} {a a' : Act} {Ds : List Nat} (h : Aft top G w a Ds G' w' a') : ∀ b, G.prot b → G'.prot b := fun b hb => (h.prot b).2 (.inl hb)
theorem Aft.of_ext {top : Bool} {G G' : Gh} {w w' : World} {a a' : Act} (e : Ext G w G' w') (hd : a'.defers = a.defers) : Aft top G w a [] G' w' a' := by
 refine ⟨?_, fun b => by simp [e.prot], List.nodup_nil, fun D h => by simp at h, fun _ => rfl, by simpa using hd⟩
 rw [Gh.withProt_self e.prot]; exact e
theorem Aft.none {G G' : Gh} {w w' : World} {a a' : Act} {Ds : List Nat} (h : Aft false G w a Ds G' w' a') : Ext G w G' w' ∧ a'.defers = a.defers := by
 have h0 := h.top rfl
 subst h0
 have hp : G'.prot = G.prot := by
  funext b; apply propext; simpa using h.prot b
 have := h.ext
 rw [Gh.withProt_self hp] at this
 exact ⟨this, by simpa using h.defers⟩
theorem Aft.trans {top : Bool} {G G1 G2 : Gh} {w w1 w2 : World} {a a1 a2 : Act} {Ds Es : List Nat} (hp : ∀ b, G1.prot b → b < w1.heap.size) (h : Aft top G w a Ds G1 w1 a1) (k : Aft top G1 w1 a1 Es G2 w2 a2) : Aft top G w a (Es ++ Ds) G2 w2 a2 := by
 have k1 : Ext (G1.withProt G.prot) w1 (G2.withProt G.prot) w2 := k.ext.less (p := G.prot) h.protSub
 refine ⟨h.ext.trans k1, fun b => ?_, ?_, ?_, fun ht => by rw [h.top ht, k.top ht]; rfl, by rw [k.defers, h.defers, List.map_append, List.append_assoc]⟩
 · rw [k.prot, h.prot, List.mem_append]
   constructor
   · rintro ((x | x) | x)
     · exact .inl x
     · exact .inr (.inr x)
     · exact .inr (.inl x)
   · rintro (x | x | x)
     · exact .inl (.inl x)
     · exact .inr x
     · exact .inl (.inr x)
 · refine List.nodup_append.2 ⟨k.nodup, h.nodup, ?_⟩
   intro x hx y hy he
   subst he
   have e1 := (k.new x hx).1
   have e2 := hp x ((h.prot x).2 (.inr hy))
   omega
 · intro D hD
   rcases List.mem_append.1 hD with hD | hD
   · exact ⟨Nat.le_trans h.ext.below.size (k.new D hD).1, (k.new D hD).2⟩
   · refine ⟨(h.new D hD).1, ?_⟩
     have := k.ext.below.block D ((h.prot D).2 (.inr hD))
     exact this.trans (h.new D hD).2
def AfterC (top : Bool) (G : Gh) (w : World) (σ' : St) (ρ' : Env) (n : Nat) (a : Act) (K : Act → World → Prop) : Prop :=
 ∀ (Ds : List Nat) (G' : Gh) (w' : World) (a' : Act), Rs G' σ' w' → Aft top G w a Ds G' w' a' → RE G' w' ρ' a'.tmps → a'.tmps.size = n → K a' w'
theorem AfterC.after {top : Bool} {G : Gh} {w : World} {σ' : St} {ρ' : Env} {n : Nat} {a : Act} {K : Act → World → Prop} (h : AfterC top G w σ' ρ' n a K) : After G w σ' ρ' n a K :=
 fun G' w' a' h1 h2 h3 h4 h5 => h [] G' w' a' h1 (Aft.of_ext h2 h5) h3 h4
theorem AfterC.ext {top : Bool} {G G1 : Gh} {w w1 : World} {σ' : St} {ρ' : Env} {n : Nat} {a a1 : Act} {Ds : List Nat} {K : Act → World → Prop} (h : AfterC top G w σ' ρ' n a K) (hp : ∀ b, G1.prot b → b < w1.heap.size) (e : Aft top G w a Ds G1 w1 a1) : AfterC top G1 w1 σ' ρ' n a1 K :=
 fun Es G2 w2 a2 h1 h2 h3 h4 => h (Es ++ Ds) G2 w2 a2 h1 (Aft.trans hp e h2) h3 h4
theorem AfterC.of_after {G : Gh} {w : World} {σ' : St} {ρ' : Env} {n : Nat} {a : Act} {K : Act → World → Prop} (h : After G w σ' ρ' n a K) : AfterC false G w σ' ρ' n a K :=
 fun _ G' w' a' h1 h2 h3 h4 => h G' w' a' h1 h2.none.1 h3 h4 h2.none.2
structure Parts (P : Program) (I : Gh → World → Prop) (yl : YlF) : Prop where
 st : ∀ {G : Gh} {w : World} {G' : Gh} {w' : World} {p : Nat → Prop}, I G w → Ext (G.withProt p) w (G'.withProt p) w' → I G' w'
 yl : ∀ (k : Nat) (args : List V) (σ : St) (r : V) (σ' : St), yl k args σ = some (r, σ') →
  ∀ (G : Gh) (w : World) (vargs : List Value) (L s : Nat), I G w → Rs G σ w → RvL G w args vargs → G.ob k = some (L, s) →
   ∃ rec : Loop, w.heap[L]? = some (.loop rec) ∧ vargs.length = rec.params.size ∧
    RoundIn (Fr none) 0 P L rec.fn ((rec.params.zip vargs.toArray).foldl (fun tmps (t, a) => tmps.setIfInBounds t a) rec.tmps) rec.assign rec.body w fun e w' =>
     ∃ G' v, e = .returned v ∧ Rs G' σ' w' ∧ Ext G w G' w' ∧ Rv G' w' r v
theorem Good.parts {I : Gh → World → Prop} (h : Good P I call) : Parts P I call.yl := ⟨h.st, h.yl⟩
def GoodCy (P : Program) (cy : YlF → FnF) : Prop := ∀ (I : Gh → World → Prop) (ys : YlF), Parts P I ys → Good P I ⟨cy ys, ys⟩
theorem Parts.aft {I : Gh → World → Prop} {ys : YlF} (h : Parts P I ys) {top : Bool} {G G' : Gh} {w w' : World} {a a' : Act} {Ds : List Nat} (hI : I G w) (e : Aft top G w a Ds G' w' a') : I G' w' :=
 h.st (p := G.prot) hI (by have := e.ext; rwa [show G.withProt G.prot = G from rfl])
theorem RE.withProt {G : Gh} {w : World} {ρ : Env} {tmps : Array Value} (h : RE G w ρ tmps) (p : Nat → Prop) : RE (G.withProt p) w ρ tmps := fun t => Rv.prot _ _ (h t)
theorem RE.of_withProt {G : Gh} {w : World} {ρ : Env} {tmps : Array Value} {p : Nat → Prop} (h : RE (G.withProt p) w ρ tmps) : RE G w ρ tmps := fun t => by
 have := Rv.prot (G := G.withProt p) (p := G.prot) _ _ (h t)
 exact this
theorem RE.extP {G G' : Gh} {w w' : World} {ρ : Env} {tmps : Array Value} {p : Nat → Prop} (h : RE G w ρ tmps) (e : Ext (G.withProt p) w (G'.withProt p) w') : RE G' w' ρ tmps := RE.of_withProt ((h.withProt p).ext e)
theorem re_binds {G : Gh} {w : World} {n : Nat} : ∀ {ps : List Nat} {args : List V} {vargs : List Value} {ρ : Env} {tmps : Array Value}, RE G w ρ tmps → tmps.size = n → (∀ p ∈ ps, p < n) → RvL G w args vargs → args.length = ps.length →
  RE G w (bindPs ρ ps args) ((ps.zip vargs).foldl (fun tmps (t, a) => tmps.setIfInBounds t a) tmps) ∧ ((ps.zip vargs).foldl (fun tmps (t, a) => tmps.setIfInBounds t a) tmps).size = n
 | [], args, vargs, ρ, tmps, h, hn, _, ha, hl => by
  simp only [bindPs, List.zip_nil_left, List.foldl_nil]
  exact ⟨h, hn⟩
 | p :: ps, [], vargs, ρ, tmps, h, hn, hp, ha, hl => by simp at hl
 | p :: ps, x :: args, vargs, ρ, tmps, h, hn, hp, ha, hl => by
  simp only [RvL] at ha
  obtain ⟨v, vs, rfl, h1, h2⟩ := ha
  simp only [bindPs, List.zip_cons_cons, List.foldl_cons]
  have hpn := hp p (by simp)
  have hput := RE.put (a := { tmps := tmps, defers := [] }) (dst := some p) (n := n) h hn (by simp [cDst, hpn]) h1
  exact re_binds (ρ := upd ρ p x) (tmps := tmps.setIfInBounds p v) hput (by simp [hn]) (fun q hq => hp q (by simp [hq])) h2 (by simpa using hl)
theorem rounds_ok {fr : Option Nat} {c : Code} {body : Env → St → Option (Ex × Env × St)} {n : Nat} {top : Bool} {I : Gh → World → Prop} {ys : YlF} (hpt : Parts P I ys)
  (hbody : ∀ {ρ : Env} {σ : St} {e : Ex} {ρ' : Env} {σ' : St} {G : Gh} {w : World} {a : Act} {Q : Exit → Act → World → Prop}, body ρ σ = some (e, ρ', σ') → I G w → Rs G σ w → RE G w ρ a.tmps → a.tmps.size = n → AfterC top G w σ' ρ' n a (Q e.to) → c.wpIn (Fr fr) 0 P Q a w) :
  ∀ (k : Nat) {ρ : Env} {σ : St} {e : Ex} {ρ' : Env} {σ' : St} {G : Gh} {w : World} {a : Act} {Q : Exit → Act → World → Prop}, iter body k ρ σ = some (e, ρ', σ') → I G w → Rs G σ w → RE G w ρ a.tmps → a.tmps.size = n →
   AfterC top G w σ' ρ' n a (Q e.to) → Code.roundsIn (Fr fr) 0 P c Q k a w
 | 0, ρ, σ, e, ρ', σ', G, w, a, Q, h, hI, hs, hr, hn, hK => by cases h
 | k + 1, ρ, σ, e, ρ', σ', G, w, a, Q, h, hI, hs, hr, hn, hK => by
  simp only [iter, Option.bind_eq_some_iff] at h
  obtain ⟨⟨e1, ρ1, σ1⟩, h1, h2⟩ := h
  rw [roundsIn_succ]
  cases e1 with
  | normal =>
   refine hbody h1 hI hs hr hn ?_
   intro Ds G1 w1 a1 r1 r2 r3 r4
   exact rounds_ok hpt hbody k h2 (hpt.aft hI r2) r1 r3 r4 (hK.ext r1.prot r2)
  | exit i =>
   simp only [Option.some.injEq, Prod.mk.injEq] at h2
   obtain ⟨rfl, rfl, rfl⟩ := h2
   exact hbody h1 hI hs hr hn hK
  | ret =>
   simp only [Option.some.injEq, Prod.mk.injEq] at h2
   obtain ⟨rfl, rfl, rfl⟩ := h2
   exact hbody h1 hI hs hr hn hK
theorem round_ok {x y : Code} {fx fy : Env → St → Option (Ex × Env × St)} {n : Nat} {I : Gh → World → Prop} {ys : YlF} (hpt : Parts P I ys)
  (hx : ∀ {fr : Option Nat} {ρ : Env} {σ : St} {e : Ex} {ρ' : Env} {σ' : St} {G : Gh} {w : World} {a : Act} {Q : Exit → Act → World → Prop}, fx ρ σ = some (e, ρ', σ') → I G w → Rs G σ w → RE G w ρ a.tmps → a.tmps.size = n → AfterC false G w σ' ρ' n a (Q e.to) → x.wpIn (Fr fr) 0 P Q a w)
  (hy : ∀ {fr : Option Nat} {ρ : Env} {σ : St} {e : Ex} {ρ' : Env} {σ' : St} {G : Gh} {w : World} {a : Act} {Q : Exit → Act → World → Prop}, fy ρ σ = some (e, ρ', σ') → I G w → Rs G σ w → RE G w ρ a.tmps → a.tmps.size = n → AfterC false G w σ' ρ' n a (Q e.to) → y.wpIn (Fr fr) 0 P Q a w)
  {ρ : Env} {ps : List Nat} {k : Nat} {args : List V} {σ : St} {r : V} {σ' : St} {G : Gh} {w : World} {vargs : List Value} {L s : Nat} {rec0 : Loop} (hps : ∀ p ∈ ps, p < n)
  (h : aRound fx fy ρ ps k args σ = some (r, σ')) (hI : I G w) (hlp : G.lp k = some rec0) (hre : RE G w ρ rec0.tmps) (hn : rec0.tmps.size = n) (h1 : rec0.params.toList = ps) (h2 : rec0.assign = x) (h3 : rec0.body = y)
  (hs : Rs G σ w) (ha : RvL G w args vargs) (hob : G.ob k = some (L, s)) :
  ∃ rec : Loop, w.heap[L]? = some (.loop rec) ∧ vargs.length = rec.params.size ∧
    RoundIn (Fr none) 0 P L rec.fn ((rec.params.zip vargs.toArray).foldl (fun tmps (t, a) => tmps.setIfInBounds t a) rec.tmps) rec.assign rec.body w fun e w' =>
     ∃ G' v, e = .returned v ∧ Rs G' σ' w' ∧ Ext G w G' w' ∧ Rv G' w' r v := by
 unfold aRound at h
 split at h
 · rename_i pe hk
   cases hl : Nat.beq args.length ps.length with
   | false => rw [hl] at h; simp at h
   | true =>
    have hlen := Nat.eq_of_beq_eq_true hl
    rw [hl, cond_true, Option.bind_eq_some_iff] at h
    obtain ⟨⟨e1, ρ1, σ1⟩, hx1, h⟩ := h
    simp only at h
    obtain ⟨b, s', r0, k1, k2, k3, k4, k5⟩ := hs.ok k _ hk
    rw [hob] at k1; cases k1
    rw [hlp] at k2; cases k2
    refine ⟨_, k3, ?_, ?_⟩
    · simp only
      rw [ha.length, hlen, ← h1]; simp
    · simp only
      refine roundIn_of_wpIn trivial ?_
      have hfold : (rec0.params.zip vargs.toArray).foldl (fun tmps (t, a) => tmps.setIfInBounds t a) rec0.tmps = (ps.zip vargs).foldl (fun tmps (t, a) => tmps.setIfInBounds t a) rec0.tmps := by
       rw [← Array.foldl_toList, Array.toList_zip, h1]
      rw [hfold, h2, h3]
      obtain ⟨b1, b2⟩ := re_binds (n := n) hre hn hps ha hlen
      refine hx (fr := some L) (a := { tmps := (ps.zip vargs).foldl (fun tmps (t, a) => tmps.setIfInBounds t a) rec0.tmps, defers := [] }) hx1 hI hs b1 b2 ?_
      refine AfterC.of_after ?_
      intro G1 w1 a1 r1 r2 r3 r4 r5
      split at h
      · rename_i pe1 hk1
        simp only [Ex.to, Exit.then]
        obtain ⟨b', s'', r0', l1, l2, l3, l4, l5⟩ := r1.ok k _ hk1
        rw [r2.ob _ _ hob] at l1; cases l1
        rw [r2.lp _ _ hlp] at l2; cases l2
        refine ⟨_, run_beginRound l3 rfl, ?_⟩
        simp only
        obtain ⟨m1, m2⟩ := Rs.setLoop r1 hk1 (r2.ob _ _ hob) (r2.lp _ _ hlp) (r' := { rec0 with state := .busy, pending := pe1.bind Ex.code }) (some (.loop .busy pe1)) (.inr ⟨.busy, pe1, rfl, rfl⟩)
        rw [Option.bind_eq_some_iff] at h
        obtain ⟨⟨e2, ρ2, σ2⟩, hy1, h⟩ := h
        simp only at h
        have hI1 : I G1 w1 := hpt.aft hI (Aft.of_ext (top := false) (a := a1) (a' := a1) r2 rfl)
        refine hy (fr := some L) hy1 (hpt.aft hI1 (Aft.of_ext (top := false) (a := a1) (a' := a1) m2 rfl)) m1 (r3.ext m2) r4 ?_
        refine AfterC.of_after ?_
        intro G2 w2 a2 q1 q2 q3 q4 q5
        have e02 := (r2.trans m2).trans q2
        split at h
        · rename_i st2 pe2 hk2
          obtain ⟨b', s'', r0', l1, l2, l3', l4', l5'⟩ := q1.ok k _ hk2
          rw [e02.ob _ _ hob] at l1; cases l1
          rw [e02.lp _ _ hlp] at l2; cases l2
          cases e2 with
          | normal =>
           simp only [Option.some.injEq, Prod.mk.injEq] at h
           obtain ⟨rfl, rfl⟩ := h
           obtain ⟨o1, o2⟩ := Rs.setLoop q1 hk2 (e02.ob _ _ hob) (e02.lp _ _ hlp) (r' := { rec0 with state := .ready, pending := none }) (some (.loop .ready none)) (.inr ⟨.ready, none, rfl, rfl⟩)
           refine ⟨_, _, run_endRound none l3', G2, .bool true, by simp, o1, e02.trans o2, Rv.bool⟩
          | exit i =>
           simp only [Option.some.injEq, Prod.mk.injEq] at h
           obtain ⟨rfl, rfl⟩ := h
           obtain ⟨o1, o2⟩ := Rs.setLoop q1 hk2 (e02.ob _ _ hob) (e02.lp _ _ hlp) (r' := { rec0 with state := .done, pending := some (.exit i) }) (some (.loop .done (some (.exit i)))) (.inr ⟨.done, some (.exit i), rfl, rfl⟩)
           refine ⟨_, _, run_endRound (some (.exit i)) l3', G2, .bool false, by simp, o1, e02.trans o2, Rv.bool⟩
          | ret =>
           simp only [Option.some.injEq, Prod.mk.injEq] at h
           obtain ⟨rfl, rfl⟩ := h
           obtain ⟨o1, o2⟩ := Rs.setLoop q1 hk2 (e02.ob _ _ hob) (e02.lp _ _ hlp) (r' := { rec0 with state := .done, pending := some .ret }) (some (.loop .done (some .ret))) (.inr ⟨.done, some .ret, rfl, rfl⟩)
           refine ⟨_, _, run_endRound (some .ret) l3', G2, .bool false, by simp, o1, e02.trans o2, Rv.bool⟩
        · cases h
      · cases h
 · cases h
theorem rangeFn_ok {cy : YlF → FnF} (hcy : GoodCy P cy) {g : Operand} {ga : AO} {ps : Array Tmp} {x y : Code} {fx fy : Env → St → Option (Ex × Env × St)} {n : Nat} {I : Gh → World → Prop} {ys : YlF} (hpt : Parts P I ys)
  (hx : ∀ {fr : Option Nat} {ρ : Env} {σ : St} {e : Ex} {ρ' : Env} {σ' : St} {G : Gh} {w : World} {a : Act} {Q : Exit → Act → World → Prop}, fx ρ σ = some (e, ρ', σ') → I G w → Rs G σ w → RE G w ρ a.tmps → a.tmps.size = n → AfterC false G w σ' ρ' n a (Q e.to) → x.wpIn (Fr fr) 0 P Q a w)
  (hy : ∀ {fr : Option Nat} {ρ : Env} {σ : St} {e : Ex} {ρ' : Env} {σ' : St} {G : Gh} {w : World} {a : Act} {Q : Exit → Act → World → Prop}, fy ρ σ = some (e, ρ', σ') → I G w → Rs G σ w → RE G w ρ a.tmps → a.tmps.size = n → AfterC false G w σ' ρ' n a (Q e.to) → y.wpIn (Fr fr) 0 P Q a w)
  {ρ : Env} {σ : St} {e : Ex} {ρ' : Env} {σ' : St} {G : Gh} {w : World} {a : Act} {Q : Exit → Act → World → Prop} (hps : ∀ p ∈ ps.toList, p < n) (hg : cOpd g = some ga) {f : FuncId} {captured : List V} (hf : ga.eval ρ = .fn (.func f) [] captured)
  {v : V} {σ1 : St} (hcall : cy (fun j => cond (Nat.beq j σ.n) (aRound fx fy ρ ps.toList σ.n) (ys j)) f (.yl σ.n :: captured) (σ.push (.loop .ready none)) = some (v, σ1)) (haf : aAfter σ.n ρ σ1 = some (e, ρ', σ'))
  (hI : I G w) (hs : Rs G σ w) (hr : RE G w ρ a.tmps) (hn : a.tmps.size = n) (hK : AfterC true G w σ' ρ' n a (Q e.to)) : (Code.rangeFunc g ps x y).wpIn (Fr none) 0 P Q a w := by
 refine wpIn_rangeFunc ?_
 intro fn _
 -- the block for the rounds' deferred calls, held back
 obtain ⟨d1, d2⟩ := hs.garbage (.deferred (some []))
 have hD : (w.alloc (.deferred (some []))).heap[w.heap.size]? = some (.deferred (some [])) := by rw [heap_alloc_at]
 have hp1 : ∀ b, (G.prot b ∨ b = w.heap.size) → b < (w.alloc (.deferred (some []))).heap.size := by
  intro b hb
  rw [World.size_alloc]
  rcases hb with hb | rfl
  · exact Nat.lt_succ_of_lt (hs.prot b hb)
  · exact Nat.lt_succ_self _
 have p1 : Rs (G.withProt fun b => G.prot b ∨ b = w.heap.size) σ (w.alloc (.deferred (some []))) := by
  refine d1.prots hp1 ?_
  intro o x b ho hb
  rintro (h | rfl)
  · exact (hs.notProt ho hb).1 h
  · exact absurd (hs.notProt ho hb).2 (Nat.lt_irrefl _)
 -- the record
 let rec0 : Loop := { state := .ready, pending := none, fn := fn, tmps := a.tmps, params := ps, assign := x, body := y, defers := w.heap.size }
 obtain ⟨n1, n2⟩ := p1.newLoop rec0 rfl rfl
 generalize hGl : ({ (G.withProt fun b => G.prot b ∨ b = w.heap.size).addOb σ.n ((w.alloc (.deferred (some []))).heap.size, 0) with lp := fun k => if k = σ.n then some rec0 else (G.withProt fun b => G.prot b ∨ b = w.heap.size).lp k } : Gh) = Gl at n1 n2
 have glp : Gl.lp σ.n = some rec0 := by rw [← hGl]; simp
 have gob : Gl.ob σ.n = some (w.heap.size + 1, 0) := by rw [← hGl]; simp [Gh.addOb, World.size_alloc]
 have gprot : Gl.prot = fun b => G.prot b ∨ b = w.heap.size := n2.prot
 have e1 : Ext G w (Gl.withProt G.prot) ((w.alloc (.deferred (some []))).alloc (.loop rec0)) := by
  refine d2.trans ?_
  have := n2.less (p := G.prot) (fun b hb => Or.inl hb)
  exact this
 have hE : (Instr.enterLoop fn a.tmps ps x y none).run P w = .ok (w.heap.size + 1, [mark w.heap.size]) ((w.alloc (.deferred (some []))).alloc (.loop rec0)) := run_enterLoop_outer fn a.tmps ps x y
 have hIl : I Gl ((w.alloc (.deferred (some []))).alloc (.loop rec0)) := hpt.st (p := G.prot) hI (by rwa [show G.withProt G.prot = G from rfl])
 have hrl : RE Gl ((w.alloc (.deferred (some []))).alloc (.loop rec0)) ρ a.tmps := RE.of_withProt (hr.ext e1)
 -- what holds all along
 let I' : Gh → World → Prop := fun G w => I G w ∧ G.lp σ.n = some rec0 ∧ RE G w ρ rec0.tmps
 have hpt' : Parts P I' (fun j => cond (Nat.beq j σ.n) (aRound fx fy ρ ps.toList σ.n) (ys j)) := by
  refine ⟨?_, ?_⟩
  · intro G1 w1 G2 w2 p hi ex
    exact ⟨hpt.st hi.1 ex, ex.lp _ _ hi.2.1, hi.2.2.extP ex⟩
  · intro k args τ r τ' hr1 G1 w1 vargs L s hi hs1 ha hob
    cases hk : Nat.beq k σ.n with
    | true =>
     have := Nat.eq_of_beq_eq_true hk; subst this
     rw [hk, cond_true] at hr1
     exact round_ok hpt hx hy (rec0 := rec0) hps hr1 hi.1 hi.2.1 hi.2.2 hn rfl rfl rfl hs1 ha hob
    | false =>
     rw [hk, cond_false] at hr1
     exact hpt.yl k args τ r τ' hr1 G1 w1 vargs L s hi.1 hs1 ha hob
 have hgood := hcy I' _ hpt'
 obtain ⟨k1, k2⟩ := hgood.fn f _ _ v σ1 hcall
 have hfv := opd_ok hr hg
 rw [hf] at hfv
 simp only [Rv, RvL] at hfv
 obtain ⟨fs, cs, hfe, rfl, hcap⟩ := hfv
 have hcapl : RvL Gl ((w.alloc (.deferred (some []))).alloc (.loop rec0)) captured cs := by
  have := RvL.prot (G := Gl.withProt G.prot) (p := Gl.prot) _ _ (RvL.ext e1 _ _ hcap)
  exact this
 have hargs : RvL Gl ((w.alloc (.deferred (some []))).alloc (.loop rec0)) (.yl σ.n :: captured) (.func (.yield (w.heap.size + 1)) #[] #[] :: cs) :=
  RvL.cons (by simp only [Rv]; exact ⟨_, _, gob, rfl⟩) hcapl
 have hcalls := k2 Gl _ _ ⟨hIl, glp, hrl⟩ n1 hargs
 have hres : (resolve a.eval (rangeCall g (w.heap.size + 1)) 0).run P ((w.alloc (.deferred (some []))).alloc (.loop rec0)) = .ok { target := .fn (.func f) cs.toArray, args := #[.func (.yield (w.heap.size + 1)) #[] #[]] } ((w.alloc (.deferred (some []))).alloc (.loop rec0)) := by
  simp only [resolve, hfe, Deferred.ofValue, Sem.run_pure]
  simp [Act.eval]
 have hinv : (invoke (.fn (.func f) cs.toArray) #[.func (.yield (w.heap.size + 1)) #[] #[]]).run P ((w.alloc (.deferred (some []))).alloc (.loop rec0)) = .ok (.enter f (.func (.yield (w.heap.size + 1)) #[] #[] :: cs).toArray) ((w.alloc (.deferred (some []))).alloc (.loop rec0)) := by
  simp only [invoke]
  rw [run_callFunc k1]
  simp
 refine ⟨_, _, _, _, _, f, _, _, hE, hres, fun _ _ => trivial, hinv, fun h => (by cases h), callsFr (hcalls.mono ?_)⟩
 rintro e' w3 ⟨G3, v', rfl, q1, q2, q3⟩
 have aft : ∀ w4, Ext G3 w3 G3 w4 → Aft true G w a [w.heap.size] G3 w4 { a with defers := [mark w.heap.size] ++ a.defers } := by
  intro w4 o2
  have q4 := q2.trans o2
  refine ⟨e1.trans ?_, fun b => ?_, by simp, ?_, fun h => (by cases h), rfl⟩
  · exact q4.less (p := G.prot) (fun b hb => by rw [gprot]; exact Or.inl hb)
  · rw [q4.prot, gprot]; simp
  · intro D hDm
    simp only [List.mem_singleton] at hDm; subst hDm
    refine ⟨Nat.le_refl _, ?_⟩
    have h1 := q4.below.block w.heap.size (by rw [gprot]; exact Or.inr rfl)
    have h2 := n2.below.block w.heap.size (Or.inr rfl)
    exact h1.trans (h2.trans hD)
 have fin : ∀ {st : LoopState} {pe : Option Ex}, σ1.get σ.n = some (.loop st pe) → st ≠ .busy → σ' = σ1.put σ.n none → ρ' = ρ → ∃ w4, (Instr.endLoop (w.heap.size + 1)).run P w3 = .ok (pe.bind Ex.code) w4 ∧ Q e.to { a with defers := [mark w.heap.size] ++ a.defers } w4 := by
  intro st pe hk hb hσ hρ
  obtain ⟨b', s'', r0', l1, l2, l3, l4, l5⟩ := q1.ok _ _ hk
  rw [q2.ob _ _ gob] at l1; cases l1
  rw [q2.lp _ _ glp] at l2; cases l2
  obtain ⟨o1, o2⟩ := Rs.setLoop q1 hk (q2.ob _ _ gob) (q2.lp _ _ glp) (r' := { ({ rec0 with state := st, pending := pe.bind Ex.code } : Loop) with state := .exhausted }) none (.inl rfl)
  refine ⟨_, run_endLoop l3 hb, ?_⟩
  subst hσ; subst hρ
  exact hK [w.heap.size] G3 _ _ o1 (aft _ o2) (hrl.ext (q2.trans o2)) hn
 unfold aAfter at haf
 cases hk : σ1.get σ.n with
 | none => rw [hk] at haf; cases haf
 | some ob =>
  rw [hk] at haf
  cases ob with
  | cells _ => cases haf
  | map _ _ => cases haf
  | tok => cases haf
  | loop st pe =>
   have hnb : st ≠ .busy := by rintro rfl; cases haf
   cases pe with
   | none =>
    have haf : (Ex.normal, ρ, σ1.put σ.n none) = (e, ρ', σ') := by
     cases st <;> first | exact absurd rfl hnb | (simpa using haf)
    simp only [Prod.mk.injEq] at haf
    obtain ⟨he, hρ, hσ⟩ := haf
    subst he
    obtain ⟨w4, f1, f2⟩ := fin hk hnb hσ.symm hρ.symm
    exact ⟨_, w4, f1, f2⟩
   | some e0 =>
    have haf : e0 ≠ .normal ∧ (e0, ρ, σ1.put σ.n none) = (e, ρ', σ') := by
     cases e0 <;> cases st <;> first | exact absurd rfl hnb | (cases haf; done) | (simpa using haf)
    obtain ⟨hn0, haf⟩ := haf
    simp only [Prod.mk.injEq] at haf
    obtain ⟨he, hρ, hσ⟩ := haf
    subst he
    obtain ⟨w4, f1, f2⟩ := fin hk hnb hσ.symm hρ.symm
    cases e0 with
    | normal => exact absurd rfl hn0
    | exit i => exact ⟨_, w4, f1, wpIn_exit f2⟩
    | ret => exact ⟨_, w4, f1, wpIn_ret f2⟩
end
end Go.Ab
