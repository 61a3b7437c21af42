/-
  Code and calls.
-/
import Derived.Test.YtehhgmfedaebcaaAbH
namespace Go.Ab
open Go.RowKit

section
variable {P : Program} {mu : TypeId → Bool}

def cCode (P : Program) (mu : TypeId → Bool) (n : Nat) : Code → Option AC
  | .skip => some .skip
  | .label _ => some .skip
  | .region _ ops draw => if draw then (cDraw P mu n ops).map (.region true) else (ops.toList.mapM (cOper P mu n ops)).map (.region false)
  | .seq a b => (cCode P mu n a).bind fun a => (cCode P mu n b).map fun b => .seq a b
  | .cond c a b => (cOpd c).bind fun c => (cCode P mu n a).bind fun a => (cCode P mu n b).map fun b => .cond c a b
  | .block i b => (cCode P mu n b).map (.block i)
  | .loop b => (cCode P mu n b).map .loop
  | .exit i => some (.exit i)
  | .ret => some .ret
  | _ => none

def Ex.to : Ex → Exit
  | .normal => .normal
  | .exit i => .exit i
  | .ret => .ret

variable {call : CallF}

theorem draw_ok (hg : Good P call) {fr : Option Nat} (hm : P.follows .mixedOrders = true) {n id : Nat} {ops : Array Oper} {aos : List AOper} {ρ ρ' : Env} {σ σ' : St} {G : Gh} {w : World} {a : Act} {Q : Exit → Act → World → Prop}
    (hc : cDraw P mu n ops = some aos) (hrun : runDraw call aos ρ σ = some (ρ', σ')) (hs : Rs G σ w) (hr : RE G w ρ a.tmps) (hn : a.tmps.size = n) (hK : After G w σ' ρ' n a (Q .normal)) :
    (Code.region id ops true).wpIn (Fr fr) 0 P Q a w := by
  obtain ⟨C, hd⟩ := cDraw_ok hc
  have F := drawF hd
  simp only [runDraw, Option.bind_eq_some_iff] at hrun
  obtain ⟨⟨steps, ss, r⟩, h1, h2⟩ := hrun
  simp only at h2
  split at h2
  · rename_i hal
    cases h2
    have T := trace_ok h1
    refine wpIn_region_any hm ?_
    obtain ⟨g1, g2⟩ := hs.drew
    have hr' := hr.ext g2
    have hK' : After G w.drew σ' ρ' n a (Q .normal) := hK.ext g2 rfl
    have hnl : ∀ i, ¬ Lst (Array.replicate ops.size false) i := by
      intro i
      unfold Lst
      simp only [Array.getD_eq_getD_getElem?, Array.getElem?_replicate]
      split <;> simp
    have inv : Inv ops aos ρ G w.drew a n steps ss (Array.replicate ops.size false) 0 (fun _ => none) G a w.drew :=
      ⟨by simp, fun i j _ hi => absurd hi (hnl i), fun e _ he => absurd he (Nat.not_lt_zero _), Nat.zero_le _, ⟨σ, T.first, g1⟩, Ext.refl _ _, fun _ h => h, fun i b h => (by cases h), fun e _ hl => absurd hl (hnl e), fun i j b h => (by cases h),
        fun b h => .inl h, fun t _ => ⟨fun i s _ _ hl => absurd hl (hnl i), fun _ => hr' t⟩, hn, rfl⟩
    exact any_ok hg F C T hal hK' ops.size _ 0 _ G a w.drew inv (fun e _ _ => hnl e) (by simp)
  · cases h2

theorem rounds_ok {fr : Option Nat} {c : Code} {body : Env → St → Option (Ex × Env × St)} {n : Nat}
    (hbody : ∀ {ρ : Env} {σ : St} {e : Ex} {ρ' : Env} {σ' : St} {G : Gh} {w : World} {a : Act} {Q : Exit → Act → World → Prop}, body ρ σ = some (e, ρ', σ') → Rs G σ w → RE G w ρ a.tmps → a.tmps.size = n → After G w σ' ρ' n a (Q e.to) → c.wpIn (Fr fr) 0 P Q a w) :
    ∀ (k : Nat) {ρ : Env} {σ : St} {e : Ex} {ρ' : Env} {σ' : St} {G : Gh} {w : World} {a : Act} {Q : Exit → Act → World → Prop}, iter body k ρ σ = some (e, ρ', σ') → Rs G σ w → RE G w ρ a.tmps → a.tmps.size = n →
      After G w σ' ρ' n a (Q e.to) → Code.roundsIn (Fr fr) 0 P c Q k a w
  | 0, ρ, σ, e, ρ', σ', G, w, a, Q, h, hs, hr, hn, hK => by cases h
  | k + 1, ρ, σ, e, ρ', σ', G, w, a, Q, h, hs, hr, hn, hK => by
    simp only [iter, Option.bind_eq_some_iff] at h
    obtain ⟨⟨e1, ρ1, σ1⟩, h1, h2⟩ := h
    rw [roundsIn_succ]
    cases e1 with
    | normal =>
      refine hbody h1 hs hr hn ?_
      intro G1 w1 a1 r1 r2 r3 r4 r5
      exact rounds_ok hbody k h2 r1 r3 r4 (hK.ext r2 r5)
    | exit i =>
      simp only [Option.some.injEq, Prod.mk.injEq] at h2
      obtain ⟨rfl, rfl, rfl⟩ := h2
      exact hbody h1 hs hr hn hK
    | ret =>
      simp only [Option.some.injEq, Prod.mk.injEq] at h2
      obtain ⟨rfl, rfl, rfl⟩ := h2
      exact hbody h1 hs hr hn hK

theorem exec_ok (hg : Good P call) {fr : Option Nat} (hm : P.follows .mixedOrders = true) {n fuel : Nat} : ∀ (c : Code) {ac : AC} {ρ : Env} {σ : St} {e : Ex} {ρ' : Env} {σ' : St} {G : Gh} {w : World} {a : Act} {Q : Exit → Act → World → Prop},
    cCode P mu n c = some ac → exec call fuel ac ρ σ = some (e, ρ', σ') → Rs G σ w → RE G w ρ a.tmps → a.tmps.size = n → After G w σ' ρ' n a (Q e.to) → c.wpIn (Fr fr) 0 P Q a w := by
  intro c
  induction c with
  | skip =>
    intro ac ρ σ e ρ' σ' G w a Q hc h hs hr hn hK
    cases hc
    simp only [exec, Option.some.injEq, Prod.mk.injEq] at h
    obtain ⟨rfl, rfl, rfl⟩ := h
    exact wpIn_skip (hK G w a hs (Ext.refl _ _) hr hn rfl)
  | label l =>
    intro ac ρ σ e ρ' σ' G w a Q hc h hs hr hn hK
    cases hc
    simp only [exec, Option.some.injEq, Prod.mk.injEq] at h
    obtain ⟨rfl, rfl, rfl⟩ := h
    exact wpIn_label (hK G w a hs (Ext.refl _ _) hr hn rfl)
  | region id ops draw =>
    intro ac ρ σ e ρ' σ' G w a Q hc h hs hr hn hK
    simp only [cCode] at hc
    cases draw with
    | true =>
      simp only [if_true, Option.map_eq_some_iff] at hc
      obtain ⟨aos, h1, rfl⟩ := hc
      simp only [exec, Option.map_eq_some_iff] at h
      obtain ⟨⟨ρ1, σ1⟩, h2, h3⟩ := h
      cases h3
      exact draw_ok hg hm h1 h2 hs hr hn hK
    | false =>
      simp only [Bool.false_eq_true, if_false, Option.map_eq_some_iff] at hc
      obtain ⟨aos, h1, rfl⟩ := hc
      simp only [exec, Option.map_eq_some_iff] at h
      obtain ⟨⟨ρ1, σ1⟩, h2, h3⟩ := h
      cases h3
      exact wpIn_region_list (runOps_ok hg h1 h2 hs hr hn hK)
  | seq x y ihx ihy =>
    intro ac ρ σ e ρ' σ' G w a Q hc h hs hr hn hK
    simp only [cCode, Option.bind_eq_some_iff, Option.map_eq_some_iff] at hc
    obtain ⟨ax, h1, ay, h2, rfl⟩ := hc
    simp only [exec, Option.bind_eq_some_iff] at h
    obtain ⟨⟨e1, ρ1, σ1⟩, h3, h4⟩ := h
    refine wpIn_seq ?_
    cases e1 with
    | normal =>
      refine ihx h1 h3 hs hr hn ?_
      intro G1 w1 a1 r1 r2 r3 r4 r5
      exact ihy h2 h4 r1 r3 r4 (hK.ext r2 r5)
    | exit i =>
      simp only [Option.some.injEq, Prod.mk.injEq] at h4
      obtain ⟨rfl, rfl, rfl⟩ := h4
      exact ihx h1 h3 hs hr hn hK
    | ret =>
      simp only [Option.some.injEq, Prod.mk.injEq] at h4
      obtain ⟨rfl, rfl, rfl⟩ := h4
      exact ihx h1 h3 hs hr hn hK
  | cond c x y ihx ihy =>
    intro ac ρ σ e ρ' σ' G w a Q hc h hs hr hn hK
    simp only [cCode, Option.bind_eq_some_iff, Option.map_eq_some_iff] at hc
    obtain ⟨cc, h0, ax, h1, ay, h2, rfl⟩ := hc
    simp only [exec] at h
    split at h
    · rename_i t ht
      have hv := opd_ok hr h0
      rw [ht] at hv
      have hv := scv hv
      cases t with
      | true => exact wpIn_cond_true hv (ihx h1 h hs hr hn hK)
      | false => exact wpIn_cond_false hv (ihy h2 h hs hr hn hK)
    · cases h
  | block i b ih =>
    intro ac ρ σ e ρ' σ' G w a Q hc h hs hr hn hK
    simp only [cCode, Option.map_eq_some_iff] at hc
    obtain ⟨ab, h1, rfl⟩ := hc
    simp only [exec, Option.map_eq_some_iff] at h
    obtain ⟨⟨e1, ρ1, σ1⟩, h2, h3⟩ := h
    refine wpIn_block ?_
    cases e1 with
    | normal =>
      cases h3
      exact ih h1 h2 hs hr hn hK
    | exit j =>
      simp only [Prod.mk.injEq] at h3
      obtain ⟨rfl, rfl, rfl⟩ := h3
      refine ih h1 h2 hs hr hn ?_
      intro G1 w1 a1 r1 r2 r3 r4 r5
      have := hK G1 w1 a1 r1 r2 r3 r4 r5
      simp only [Ex.to, Exit.inBlock]
      split
      · rename_i hj; subst hj; simpa [Ex.to] using this
      · rename_i hj; simpa [hj, Ex.to] using this
    | ret =>
      cases h3
      exact ih h1 h2 hs hr hn hK
  | loop b ih =>
    intro ac ρ σ e ρ' σ' G w a Q hc h hs hr hn hK
    simp only [cCode, Option.map_eq_some_iff] at hc
    obtain ⟨ab, h1, rfl⟩ := hc
    simp only [exec] at h
    exact wpIn_loop_rounds fuel (rounds_ok (fun h' hs' hr' hn' hK' => ih h1 h' hs' hr' hn' hK') fuel h hs hr hn hK)
  | exit i =>
    intro ac ρ σ e ρ' σ' G w a Q hc h hs hr hn hK
    cases hc
    simp only [exec, Option.some.injEq, Prod.mk.injEq] at h
    obtain ⟨rfl, rfl, rfl⟩ := h
    exact wpIn_exit (hK G w a hs (Ext.refl _ _) hr hn rfl)
  | ret =>
    intro ac ρ σ e ρ' σ' G w a Q hc h hs hr hn hK
    cases hc
    simp only [exec, Option.some.injEq, Prod.mk.injEq] at h
    obtain ⟨rfl, rfl, rfl⟩ := h
    exact wpIn_ret (hK G w a hs (Ext.refl _ _) hr hn rfl)
  | rangeFunc f ps x y ihx ihy => intro ac ρ σ e ρ' σ' G w a Q hc; cases hc
  | scope b ih => intro ac ρ σ e ρ' σ' G w a Q hc; cases hc
  | goto l => intro ac ρ σ e ρ' σ' G w a Q hc; cases hc
  | refuse s => intro ac ρ σ e ρ' σ' G w a Q hc; cases hc

/-! ## Functions -/

def cRes (P : Program) : ResultVar → Option AR
  | .tmp t => some (.tmp t)
  | .cell t ty => (tySize P ty).map fun n => .cell t n

def cFunc (P : Program) (mu : TypeId → Bool) (f : FuncId) : Option AF :=
  (P.funcs[f]?).bind fun fn => if fn.name = "runtime.NumGoroutine" then none else fn.body.bind fun c => (cCode P mu fn.ntmps c).bind fun ac => (fn.results.toList.mapM (cRes P)).map fun rs => { ntmps := fn.ntmps, code := ac, results := rs }

theorem res_ok {σ : St} {G : Gh} {w : World} {ρ : Env} {tmps : Array Value} (hs : Rs G σ w) (hr : RE G w ρ tmps) : ∀ {rs : List ResultVar} {ars : List AR} {xs : List V}, rs.mapM (cRes P) = some ars → ars.mapM (AR.get ρ σ) = some xs →
    ∃ vs, (rs.mapM (fun | .tmp t => pure (tmps.getD t undef) | .cell a t => do loadVar t (← asAddr (tmps.getD a undef)) : ResultVar → Sem Value)).run P w = .ok vs w ∧ RvL G w xs vs
  | [], ars, xs, hm, hx => by simp at hm; subst hm; simp at hx; subst hx; exact ⟨[], by simp, RvL.nil⟩
  | r :: rs, ars, xs, hm, hx => by
    simp only [List.mapM_cons, Option.bind_eq_bind, Option.bind_eq_some_iff, Option.pure_def, Option.some.injEq] at hm
    obtain ⟨ar, h1, ars', h2, rfl⟩ := hm
    simp only [List.mapM_cons, Option.bind_eq_bind, Option.bind_eq_some_iff, Option.pure_def, Option.some.injEq] at hx
    obtain ⟨x, h3, xs', h4, rfl⟩ := hx
    obtain ⟨vs, k1, k2⟩ := res_ok hs hr h2 h4
    cases r with
    | tmp t =>
      cases h1
      simp only [AR.get, Option.some.injEq] at h3; subst h3
      exact ⟨tmps.getD t undef :: vs, by rw [List.mapM_cons]; simp only [Sem.run_bind, Sem.run_pure, Result.andThen_ok, k1], RvL.cons (hr t) k2⟩
    | cell t ty =>
      simp only [cRes, Option.map_eq_some_iff] at h1
      obtain ⟨n, h1, rfl⟩ := h1
      simp only [AR.get] at h3
      obtain ⟨ad, u, l1, l2, l3⟩ := loadAt_same (tySize_ok h1) hs (hr t) h3
      have hA : (asAddr (tmps.getD t undef)).run P w = .ok ad w := by rw [l1]; rfl
      exact ⟨u :: vs, by rw [List.mapM_cons]; simp only [Sem.run_bind, hA, Sem.run_pure, l2, Result.andThen_ok, k1], RvL.cons l3 k2⟩

theorem results_ok {σ : St} {G : Gh} {w : World} {ρ : Env} {tmps : Array Value} (hs : Rs G σ w) (hr : RE G w ρ tmps) {fn : Func} {ars : List AR} {x : V} (hm : fn.results.toList.mapM (cRes P) = some ars) (hx : resultsOf ρ σ ars = some x) :
    ∃ v, (results fn tmps).run P w = .ok v w ∧ Rv G w x v := by
  unfold resultsOf at hx
  rw [Option.map_eq_some_iff] at hx
  obtain ⟨xs, h1, h2⟩ := hx
  obtain ⟨vs, k1, k2⟩ := res_ok hs hr hm h1
  have k1' : (fn.results.mapM (fun | .tmp t => pure (tmps.getD t undef) | .cell a t => do loadVar t (← asAddr (tmps.getD a undef)) : ResultVar → Sem Value)).run P w = .ok vs.toArray w := by
    rw [Array.mapM_eq_mapM_toList]
    simp only [Sem.run_map, k1, Result.andThen_ok]
  have hrun : (results fn tmps).run P w = .ok (if h : vs.toArray.size = 1 then vs.toArray[0] else .tuple vs.toArray) w := by
    have hdef : results fn tmps = (do
        let vs ← fn.results.mapM (fun | .tmp t => pure (tmps.getD t undef) | .cell a t => do loadVar t (← asAddr (tmps.getD a undef)) : ResultVar → Sem Value)
        pure (if h : vs.size = 1 then vs[0] else .tuple vs)) := rfl
    rw [hdef]
    simp only [Sem.run_bind, k1', Result.andThen_ok, Sem.run_pure]
  refine ⟨_, hrun, ?_⟩
  match xs, k2, h2 with
  | [], k2, h2 =>
    subst h2
    simp only [RvL] at k2; subst k2
    simp only [Rv]; exact ⟨[], rfl, RvL.nil⟩
  | [x1], k2, h2 =>
    simp only at h2; subst h2
    simp only [RvL] at k2
    obtain ⟨v, vs', rfl, h3, rfl⟩ := k2
    exact h3
  | x1 :: x2 :: xs, k2, h2 =>
    simp only at h2; subst h2
    have hl := k2.length
    rw [dif_neg (by simp [hl])]
    simp only [Rv]; exact ⟨vs, rfl, k2⟩

/-- A table of functions made out of the program's. -/
def Table (P : Program) (mu : TypeId → Bool) (tbl : FuncId → Option AF) : Prop := ∀ f af, tbl f = some af → cFunc P mu f = some af

theorem initEnv_ok {G : Gh} {w : World} {args : List V} {vargs : List Value} (h : RvL G w args vargs) (n : Nat) : RE G w (initEnv args) (vargs.toArray ++ Array.replicate (n - vargs.toArray.size) undef) := by
  intro t
  unfold initEnv
  have hl := h.length
  rcases Nat.lt_or_ge t args.length with ht | ht
  · obtain ⟨v, h1, h2⟩ := h.getElem? t args[t] (List.getElem?_eq_getElem ht)
    have e1 : args[t]? = some args[t] := List.getElem?_eq_getElem ht
    rw [e1]
    have e2 : (vargs.toArray ++ Array.replicate (n - vargs.toArray.size) undef).getD t undef = v := by
      rw [Array.getD_eq_getD_getElem?, Array.getElem?_append_left (by simp; omega)]
      simp [h1]
    rw [e2]; exact h2
  · have e1 : args[t]? = none := List.getElem?_eq_none ht
    rw [e1]
    have e2 : (vargs.toArray ++ Array.replicate (n - vargs.toArray.size) undef).getD t undef = undef := by
      rw [Array.getD_eq_getD_getElem?, Array.getElem?_append_right (by simp; omega)]
      simp only [Array.getElem?_replicate]
      split <;> rfl
    rw [e2]; exact Rv.undef

theorem callN_good {tbl : FuncId → Option AF} (ht : Table P mu tbl) (hm : P.follows .mixedOrders = true) : ∀ n, Good P (callN tbl n)
  | 0 => fun f args σ r σ' h => by cases h
  | n + 1 => by
    have ih := callN_good ht hm n
    intro f args σ r σ' h
    simp only [callN, Option.bind_eq_some_iff] at h
    obtain ⟨af, h1, h⟩ := h
    have hc := ht f af h1
    simp only [cFunc, Option.bind_eq_some_iff] at hc
    obtain ⟨fn, c1, hc⟩ := hc
    split at hc
    · cases hc
    · rename_i hname
      simp only [Option.bind_eq_some_iff, Option.map_eq_some_iff] at hc
      obtain ⟨c, c2, ac, c3, rs, c4, rfl⟩ := hc
      refine ⟨⟨fn, c, c1, c2, hname⟩, ?_⟩
      intro G w vargs hs ha
      split at h
      · rename_i hlen
        simp only at hlen h
        rw [Option.bind_eq_some_iff] at h
        obtain ⟨⟨e, ρ', σ1⟩, h2, h3⟩ := h
        refine calls_of_wp c1 c2 (wpIn_wide.1 <| exec_ok (fr := none) (a := { tmps := vargs.toArray ++ Array.replicate (fn.ntmps - vargs.toArray.size) undef, defers := [] }) ih hm c c3 h2 hs (initEnv_ok ha _) ?_ ?_)
        · have := ha.length
          simp only [Array.size_append, List.size_toArray, Array.size_replicate]; omega
        · intro G' w' a' r1 r2 r3 r4 r5
          have fin : ∀ v, resultsOf ρ' σ1 rs = some v → (v, σ1) = (r, σ') → a'.defers = [] ∧ ∃ u, (results fn a'.tmps).run P w' = .ok u w' ∧ ∃ G' v, Ending.returned u = .returned v ∧ Rs G' σ' w' ∧ Ext G w G' w' ∧ Rv G' w' r v := by
            intro v hv he
            cases he
            obtain ⟨u, u1, u2⟩ := results_ok r1 r3 c4 hv
            exact ⟨r5, u, u1, G', u, rfl, r1, r2, u2⟩
          cases e with
          | exit i => cases h3
          | normal =>
            simp only [Option.map_eq_some_iff] at h3
            obtain ⟨v, h3, h4⟩ := h3
            exact fin v h3 h4
          | ret =>
            simp only [Option.map_eq_some_iff] at h3
            obtain ⟨v, h3, h4⟩ := h3
            exact fin v h3 h4
      · cases h

end
end Go.Ab
