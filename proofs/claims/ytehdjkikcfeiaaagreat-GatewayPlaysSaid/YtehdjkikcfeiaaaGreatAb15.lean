/- Code: the model's, made abstract; what the abstract run comes to, the model's does. -/
import Derived.Test.YtehdjkikcfeiaaaGreatAb14
import Derived.LoopNIn
import Derived.TacticsIn
import Derived.RangeFuncLeaves
import Derived.RangeFuncRecord
namespace Go.Ab
open Go.RowKit
section
variable {P : Program}
def Fr (r : Option Nat) : Fence := { Fence.wide with round := r }
theorem callsFr {r : Option Nat} {n : Nat} {P : Program} {f : FuncId} {args : Array Value} {w : World} {R : Ending → World → Prop} (h : Calls P f args w R) : CallsIn (Fr r) n P f args w R := by
 have k : CallsIn Fence.wide n P f args w R := callsIn_wide.2 h
 exact k
def Callable (P : Program) (f : FuncId) : Prop := ∃ fn c, P.funcs[f]? = some fn ∧ fn.body = some c ∧ fn.name ≠ "runtime.NumGoroutine"
structure Good (P : Program) (I : Gh → World → Prop) (call : CallF) : Prop where
 st : ∀ {G : Gh} {w : World} {G' : Gh} {w' : World} {p : Nat → Prop}, I G w → Ext (G.withProt p) w (G'.withProt p) w' → I G' w'
 fn : ∀ (f : FuncId) (args : List V) (σ : St) (r : V) (σ' : St), call.fn f args σ = some (r, σ') → Callable P f ∧
  ∀ (G : Gh) (w : World) (vargs : List Value), I G w → Rs G σ w → RvL G w args vargs →
   Calls P f vargs.toArray w fun e w' => ∃ G' v, e = .returned v ∧ Rs G' σ' w' ∧ Ext G w G' w' ∧ Rv G' w' r v
 yl : ∀ (k : Nat) (args : List V) (σ : St) (r : V) (σ' : St), call.yl k args σ = some (r, σ') →
  ∀ (G : Gh) (w : World) (vargs : List Value) (L s : Nat), I G w → Rs G σ w → RvL G w args vargs → G.ob k = some (L, s) →
   ∃ rec : Loop, w.heap[L]? = some (.loop rec) ∧ vargs.length = rec.params.size ∧
    RoundIn (Fr none) 0 P L rec.fn ((rec.params.zip vargs.toArray).foldl (fun tmps (t, a) => tmps.setIfInBounds t a) rec.tmps) rec.assign rec.body w fun e w' =>
     ∃ G' v, e = .returned v ∧ Rs G' σ' w' ∧ Ext G w G' w' ∧ Rv G' w' r v
theorem Good.ext {P : Program} {I : Gh → World → Prop} {call : CallF} (h : Good P I call) {G : Gh} {w : World} {G' : Gh} {w' : World} (hI : I G w) (e : Ext G w G' w') : I G' w' := by
 refine h.st hI (p := G.prot) ?_
 have := e.prot
 have k : G'.withProt G.prot = G' := by rw [← this]; rfl
 rw [k]
 exact e
theorem run_callFunc {f : FuncId} {args : Array Value} {w : World} (h : Callable P f) : (callFunc f args).run P w = .ok (.enter f args) w := by
 obtain ⟨fn, c, h1, h2, h3⟩ := h
 simp [callFunc, h1, h2, h3]
variable {G : Gh} {σ σ' : St} {w : World} {mu : TypeId → Bool} {call : CallF} {ρ : Env} {a : Act} {v : V}
def Next' (G : Gh) (w : World) (σ' : St) (v : V) (a : Act) (dst : Option Tmp) (K : Act → World → Prop) : Prop :=
 ∀ (v' : Value) (w' : World) (G' : Gh), Rs G' σ' w' → Ext G w G' w' → Rv G' w' v v' → K (a.put dst v') w'
theorem calls_next {f : FuncId} {args : Array Value} {dst : Option Tmp} {K : Act → World → Prop} {Q : Exit → Act → World → Prop} {fr : Option Nat}
  (hcall : Calls P f args w fun e w' => ∃ G' v', e = .returned v' ∧ Rs G' σ' w' ∧ Ext G w G' w' ∧ Rv G' w' v v') (hK : Next' G w σ' v a dst K) :
  ((Fr fr).depth.isSome = true → 1 ≤ 0) ∧ CallsIn (Fr fr) (0 - 1) P f args w fun
    | .returned v, w'' => K (a.put dst v) w''
    | .panicked chain, w'' => Q (.panic chain) a w''
    | .outgrown, _ => LetsOut Q := by
 refine ⟨fun h => (by cases h), callsFr (hcall.mono ?_)⟩
 rintro e w' ⟨G', v', rfl, h1, h2, h3⟩
 exact hK v' w' G' h1 h2 h3
def NoCall (x : Option AOp) : Prop := ∀ ao, x = some ao → ao.isCall = false
theorem NoCall.none : NoCall none := fun _ h => by cases h
theorem NoCall.some {ao : AOp} (h : ao.isCall = false) : NoCall (some ao) := fun _ e => by cases e; exact h
theorem NoCall.map {α : Type} {x : Option α} {f : α → AOp} (h : ∀ x, (f x).isCall = false) : NoCall (x.map f) := fun ao e => by
 rw [Option.map_eq_some_iff] at e; obtain ⟨y, _, rfl⟩ := e; exact h y
theorem NoCall.bind {α : Type} {x : Option α} {f : α → Option AOp} (h : ∀ x, NoCall (f x)) : NoCall (x.bind f) := fun ao e => by
 rw [Option.bind_eq_some_iff] at e; obtain ⟨y, _, e⟩ := e; exact h y ao e
theorem cOp_noCall (P : Program) (mu : TypeId → Bool) {o : Oper} (h : ∀ c, o.op ≠ .call c) : NoCall (cOp P mu o) := by
 obtain ⟨dst, op, type, pos, after, guard⟩ := o
 cases op <;> simp only [cOp]
 case call c => exact absurd rfl (h c)
 case makeMap t r =>
  cases r with
  | none => exact NoCall.some rfl
  | some x => exact NoCall.none
 case makeFunc fn fs cs =>
  cases fn <;> simp only <;> repeat' first
   | exact NoCall.none
   | exact NoCall.map fun _ => rfl
   | refine NoCall.bind fun _ => ?_
   | split
 all_goals repeat' first
  | exact NoCall.none
  | exact NoCall.some rfl
  | exact NoCall.map fun _ => rfl
  | refine NoCall.bind fun _ => ?_
  | split
theorem op_wp {I : Gh → World → Prop} (hg : Good P I call) (hI : I G w) {o : Oper} {ao : AOp} (hc : cOp P mu o = some ao) (hrun : ao.run call ρ σ = some (v, σ')) (hs : Rs G σ w) (hr : RE G w ρ a.tmps) {K : Act → World → Prop} {Q : Exit → Act → World → Prop}
  {a2 : Act} {fr : Option Nat} (he : execOp a2.eval o = execOp a.eval o) (hK : Next' G w σ' v a2 o.dst K) : o.wpIn (Fr fr) 0 P a2 w K Q := by
 cases hcall : ao.isCall with
 | false =>
  obtain ⟨v', w', G', h1, h2, h3, h4⟩ := cOp_ok hc hcall hrun hs hr
  have hnd : ∀ c, o.op ≠ .defer c := by
   intro c hh
   obtain ⟨dst, op, type, pos, after, guard⟩ := o
   simp only at hh; subst hh
   cases hc
  refine ⟨fun _ _ => trivial, ?_⟩
  rw [Oper.semAt_eq _ _ _ hnd, he]
  rcases h1 with h1 | ⟨h1, rfl⟩
  · rw [h1]; exact hK v' w' G' h2 h3 h4
  · rw [h1]; exact hK undef w' G' h2 h3 h4
 | true =>
  obtain ⟨dst, op, type, pos, after, guard⟩ := o
  cases op with
  | call c =>
   obtain ⟨callee, args, argTypes⟩ := c
   simp only [cOp] at hc
   cases callee with
   | builtin b =>
    simp only [Option.bind_eq_some_iff] at hc
    obtain ⟨aos, h1, hc⟩ := hc
    exfalso
    have hn : NoCall (some ao) := by
     rw [← hc]
     repeat' first
      | exact NoCall.none
      | exact NoCall.some rfl
      | exact NoCall.map fun _ => rfl
      | refine NoCall.bind fun _ => ?_
      | split
    have := hn ao rfl
    rw [this] at hcall; cases hcall
   | invoke r m => cases hc
   | value f =>
    have static : ∀ g aos, f = .func g → args.toList.mapM cOpd = some aos → ao = .call g aos → Oper.wpIn (Fr fr) 0 P ⟨dst, .call ⟨.value f, args, argTypes⟩, type, pos, after, guard⟩ a2 w K Q := by
     intro g aos hf h1 hao
     subst hf; subst hao
     simp only [AOp.run] at hrun
     obtain ⟨k1, k2⟩ := hg.fn g _ σ v σ' hrun
     have hargs := opds_ok hr h1
     have hmap : args.map a.eval = (args.toList.map a.eval).toArray := by apply Array.ext'; simp
     refine ⟨fun _ _ => trivial, ?_⟩
     rw [Oper.semAt_eq _ _ _ (by intro c hh; cases hh), he]
     have hx : (execOp a.eval ⟨dst, .call ⟨.value (.func g), args, argTypes⟩, type, pos, after, guard⟩).run P w = .ok (.enter g (args.toList.map a.eval).toArray) w := by
      simp only [execOp, resolve, Act.eval, Deferred.ofValue, invoke, Sem.run_bind, Sem.run_pure, Result.andThen_ok]
      rw [run_callFunc k1]
      simp [hmap]
     rw [hx]
     exact calls_next (k2 G w _ hI hs hargs) hK
    have dyn : ∀ f' aos, cOpd f = some f' → args.toList.mapM cOpd = some aos → ao = .callv f' aos → Oper.wpIn (Fr fr) 0 P ⟨dst, .call ⟨.value f, args, argTypes⟩, type, pos, after, guard⟩ a2 w K Q := by
     intro f' aos hf h1 hao
     subst hao
     simp only [AOp.run] at hrun
     have hfv := opd_ok hr hf
     have hargs := opds_ok hr h1
     have hmap : args.map a.eval = (args.toList.map a.eval).toArray := by apply Array.ext'; simp
     unfold aCallv at hrun
     split at hrun
     · rename_i g first captured heq
       rw [heq] at hfv
       simp only [Rv] at hfv
       obtain ⟨fs, cs, hfe, hfirst, hcap⟩ := hfv
       obtain ⟨k1, k2⟩ := hg.fn g _ σ v σ' hrun
       refine ⟨fun _ _ => trivial, ?_⟩
       rw [Oper.semAt_eq _ _ _ (by intro c hh; cases hh), he]
       have hx : (execOp a.eval ⟨dst, .call ⟨.value f, args, argTypes⟩, type, pos, after, guard⟩).run P w = .ok (.enter g (fs ++ args.toList.map a.eval ++ cs).toArray) w := by
        simp only [execOp, resolve, hfe, Deferred.ofValue, invoke, Sem.run_bind, Sem.run_pure, Result.andThen_ok]
        rw [run_callFunc k1]
        simp [hmap]
       rw [hx]
       exact calls_next (k2 G w _ hI hs ((hfirst.append hargs).append hcap)) hK
     · rename_i k heq
       rw [heq] at hfv
       simp only [Rv] at hfv
       obtain ⟨L, so, hob, hfe⟩ := hfv
       obtain ⟨rec, r1, r2, r3⟩ := hg.yl k _ σ v σ' hrun G w _ L so hI hs hargs hob
       refine ⟨fun _ _ => trivial, ?_⟩
       rw [Oper.semAt_eq _ _ _ (by intro c hh; cases hh), he]
       have hx : (execOp a.eval ⟨dst, .call ⟨.value f, args, argTypes⟩, type, pos, after, guard⟩).run P w =
         .ok (.round L rec.fn ((rec.params.zip (args.toList.map a.eval).toArray).foldl (fun tmps (t, a) => tmps.setIfInBounds t a) rec.tmps) rec.assign rec.body) w := by
        simp only [execOp, resolve, hfe, Deferred.ofValue, invoke, Sem.run_bind, Sem.run_pure, Result.andThen_ok]
        have := run_yield (P := P) (args := (args.toList.map a.eval).toArray) r1 (by simpa using r2)
        simpa [hmap] using this
       rw [hx, Oper.uponIn_round]
       refine ⟨fun h => (by cases h), ?_⟩
       have k : RoundIn (Fr fr) (0 - 1) P L rec.fn ((rec.params.zip (args.toList.map a.eval).toArray).foldl (fun tmps (t, a) => tmps.setIfInBounds t a) rec.tmps) rec.assign rec.body w _ := r3
       refine k.mono ?_
       rintro e w' ⟨G', v', rfl, h1, h2, h3⟩
       exact hK v' w' G' h1 h2 h3
     · cases hrun
    cases f with
    | func g =>
     simp only [Option.map_eq_some_iff] at hc
     obtain ⟨aos, h1, hao⟩ := hc
     split at hao
     · subst hao; simp [AOp.isCall] at hcall
     · exact static g aos rfl h1 hao.symm
    | tmp t =>
     simp only [Option.bind_eq_some_iff, Option.map_eq_some_iff] at hc
     obtain ⟨f', h0, aos, h1, rfl⟩ := hc
     exact dyn f' aos h0 h1 rfl
    | const x =>
     simp only [Option.bind_eq_some_iff, Option.map_eq_some_iff] at hc
     obtain ⟨f', h0, aos, h1, rfl⟩ := hc
     exact dyn f' aos h0 h1 rfl
    | global g =>
     simp only [Option.bind_eq_some_iff, Option.map_eq_some_iff] at hc
     obtain ⟨f', h0, aos, h1, rfl⟩ := hc
     exact dyn f' aos h0 h1 rfl
  | _ =>
   have := cOp_noCall P mu (by intro c hh; cases hh) ao hc
   rw [this] at hcall; cases hcall
def cGuard (ops : Array Oper) : Option (Nat × Bool) → Option (Option (Nat × Bool))
 | none => some none
 | some (j, b) => ((ops[j]?).bind (·.dst)).map fun d => some (d, b)
def cDst (n : Nat) : Option Tmp → Bool
 | none => true
 | some d => d < n
def cOper (P : Program) (mu : TypeId → Bool) (n : Nat) (ops : Array Oper) (o : Oper) : Option AOper :=
 if cDst n o.dst then (cOp P mu o).bind fun op => (cGuard ops o.guard).map fun g => { dst := o.dst, op, guard := g } else none
theorem Rv.isBool {x : V} {b : Bool} (h : Rv G w x (.bool b)) : x = .sc (.bool b) := by
 cases x with
 | sc a => have := scv h; cases a <;> simp [Sc.val] at this; subst this; rfl
 | str l => simp only [Rv] at h; obtain ⟨s, h, _⟩ := h; cases h
 | ptr o f => simp only [Rv] at h; obtain ⟨b, s, _, h⟩ := h; cases h
 | elt c f => simp only [Rv] at h; obtain ⟨b, s, _, h, _⟩ := h; cases h
 | vs o sz n c => simp only [Rv] at h; obtain ⟨b, s, _, _, h, _⟩ := h; cases h
 | os o f sz n l => simp only [Rv] at h; obtain ⟨b, s, _, _, h, _⟩ := h; cases h
 | mp o => simp only [Rv] at h; obtain ⟨b, s, _, h⟩ := h; cases h
 | yl o => simp only [Rv] at h; obtain ⟨b, s, _, h⟩ := h; cases h
 | fn f a c => simp only [Rv] at h; obtain ⟨b, s, h, _⟩ := h; cases h
 | ifc t y => simp only [Rv] at h; obtain ⟨y, h, _⟩ := h; cases h
 | agg c => simp only [Rv] at h; obtain ⟨y, h, _⟩ := h; cases h
 | tup c => simp only [Rv] at h; obtain ⟨y, h, _⟩ := h; cases h
theorem wanted_ok {ops : Array Oper} {o : Oper} {g : Option (Nat × Bool)} (hr : RE G w ρ a.tmps) (hg : cGuard ops o.guard = some g) : wanted ρ g = Region.wanted o (yielded ops a.tmps) := by
 unfold cGuard at hg
 unfold Region.wanted
 split at hg
 · rename_i h; cases hg; simp [h, wanted]
 · rename_i j b h
   rw [Option.map_eq_some_iff] at hg
   obtain ⟨d, h1, rfl⟩ := hg
   simp only [h, wanted, yielded, h1, Option.bind_some]
   have hd := hr d
   cases ht : a.tmps[d]? with
   | none =>
    have : a.tmps.getD d undef = undef := by simp [ht]
    rw [this] at hd
    split
    · rename_i c hc; rw [hc] at hd; have := scv hd; cases this
    · simp
   | some u =>
    have hu : a.tmps.getD d undef = u := by simp [ht]
    rw [hu] at hd
    split
    · rename_i c hc
      rw [hc] at hd
      have := scv hd; subst this
      simp [Sc.val]
    · rename_i hnb
      have : ∀ c, u ≠ .bool c := by rintro c rfl; exact hnb c hd.isBool
      cases u <;> first | rfl | exact absurd rfl (this _)
theorem RE.ext {G' : Gh} {w' : World} {tmps : Array Value} (h : RE G w ρ tmps) (e : Ext G w G' w') : RE G' w' ρ tmps := fun t => Rv.ext e _ _ (h t)
theorem RE.put {dst : Option Tmp} {n : Nat} {v' : Value} (h : RE G w ρ a.tmps) (hn : a.tmps.size = n) (hd : cDst n dst = true) (hv : Rv G w v v') : RE G w (put ρ dst v) (a.put dst v').tmps := by
 cases dst with
 | none => exact h
 | some d =>
  simp only [cDst, decide_eq_true_eq] at hd
  intro t
  simp only [Ab.put, upd, Act.put]
  by_cases ht : t = d
  · subst ht
    have : Nat.beq t t = true := Nat.beq_refl t
    simp only [this, cond_true]
    have : (a.tmps.setIfInBounds t v').getD t undef = v' := by simp [hn, hd]
    rw [this]; exact hv
  · have : Nat.beq t d = false := by
     cases hb : Nat.beq t d
     · rfl
     · exact absurd (Nat.eq_of_beq_eq_true hb) ht
    simp only [this, cond_false]
    have : (a.tmps.setIfInBounds d v').getD t undef = a.tmps.getD t undef := by
     simp [Array.getElem?_setIfInBounds_ne (Ne.symm ht)]
    rw [this]; exact h t
theorem put_size {dst : Option Tmp} {v' : Value} : (a.put dst v').tmps.size = a.tmps.size := by
 cases dst <;> simp [Act.put]
theorem put_defers' {dst : Option Tmp} {v' : Value} : (a.put dst v').defers = a.defers := by
 cases dst <;> rfl
def After (G : Gh) (w : World) (σ' : St) (ρ' : Env) (n : Nat) (a : Act) (K : Act → World → Prop) : Prop :=
 ∀ (G' : Gh) (w' : World) (a' : Act), Rs G' σ' w' → Ext G w G' w' → RE G' w' ρ' a'.tmps → a'.tmps.size = n → a'.defers = a.defers → K a' w'
theorem After.ext {G' : Gh} {w' : World} {a a' : Act} {n : Nat} {ρ' : Env} {K : Act → World → Prop} (h : After G w σ' ρ' n a K) (e : Ext G w G' w') (hd : a'.defers = a.defers) : After G' w' σ' ρ' n a' K :=
 fun G'' w'' a'' h1 h2 h3 h4 h5 => h G'' w'' a'' h1 (e.trans h2) h3 h4 (h5.trans hd)
theorem runOps_ok {I : Gh → World → Prop} (hg : Good P I call) {fr : Option Nat} {n : Nat} {ops : Array Oper} {Q : Exit → Act → World → Prop} : ∀ {l : List Oper} {aos : List AOper} {ρ : Env} {σ : St} {ρ' : Env} {σ' : St} {G : Gh} {w : World} {a : Act},
  l.mapM (cOper P mu n ops) = some aos → runOps call aos ρ σ = some (ρ', σ') → I G w → Rs G σ w → RE G w ρ a.tmps → a.tmps.size = n → After G w σ' ρ' n a (Q .normal) → wpListIn (Fr fr) 0 P ops Q l a w
 | [], aos, ρ, σ, ρ', σ', G, w, a, hm, hrun, hI, hs, hr, hn, hK => by
  simp at hm; subst hm
  simp only [runOps, Option.some.injEq, Prod.mk.injEq] at hrun
  obtain ⟨rfl, rfl⟩ := hrun
  exact hK G w a hs (Ext.refl _ _) hr hn rfl
 | o :: l, aos, ρ, σ, ρ', σ', G, w, a, hm, hrun, hI, hs, hr, hn, hK => by
  simp only [List.mapM_cons, Option.bind_eq_bind, Option.bind_eq_some_iff, Option.pure_def, Option.some.injEq] at hm
  obtain ⟨ao, h1, aos', h2, rfl⟩ := hm
  unfold cOper at h1
  split at h1
  · rename_i hd
    simp only [Option.bind_eq_some_iff, Option.map_eq_some_iff] at h1
    obtain ⟨op, h3, g, h4, rfl⟩ := h1
    have hw := wanted_ok (a := a) hr h4
    simp only [runOps] at hrun
    unfold wpListIn
    cases hwa : wanted ρ g with
    | true =>
     rw [hwa, cond_true, Option.bind_eq_some_iff] at hrun
     obtain ⟨⟨v, σ1⟩, r1, r2⟩ := hrun
     rw [if_pos (by rw [← hw, hwa])]
     refine op_wp hg hI h3 r1 hs hr rfl ?_
     intro v' w1 G1 e1 e2 e3
     exact runOps_ok hg h2 r2 (hg.ext hI e2) e1 ((hr.ext e2).put hn hd e3) (by rw [put_size, hn]) (hK.ext e2 put_defers')
    | false =>
     rw [hwa, cond_false] at hrun
     rw [if_neg (by rw [← hw, hwa]; simp)]
     refine ⟨fun _ _ => trivial, ?_⟩
     exact runOps_ok hg h2 hrun hI hs (hr.put hn hd Rv.undef) (by rw [put_size, hn]) (hK.ext (Ext.refl _ _) put_defers')
  · cases h1
end
end Go.Ab
