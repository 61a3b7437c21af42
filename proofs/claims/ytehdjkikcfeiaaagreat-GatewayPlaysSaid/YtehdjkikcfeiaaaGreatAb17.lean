/- Code and calls. -/
import Derived.Test.YtehdjkikcfeiaaaGreatAbR
namespace Go.Ab
open Go.RowKit
section
variable {P : Program} {mu : TypeId → Bool}
theorem exec_ok {cy : YlF → FnF} (hcy : GoodCy P cy) (hm : P.follows .mixedOrders = true) {n fuel : Nat} : ∀ (c : Code) {top : Bool} {fr : Option Nat} {I : Gh → World → Prop} {ys : YlF} {ac : AC} {ρ : Env} {σ : St} {e : Ex} {ρ' : Env} {σ' : St} {G : Gh} {w : World} {a : Act} {Q : Exit → Act → World → Prop},
  Parts P I ys → (top = true → fr = none) → cCode P mu n top c = some ac → exec cy ys fuel ac ρ σ = some (e, ρ', σ') → I G w → Rs G σ w → RE G w ρ a.tmps → a.tmps.size = n → AfterC top G w σ' ρ' n a (Q e.to) → c.wpIn (Fr fr) 0 P Q a w := by
 intro c
 induction c with
 | skip =>
  intro top fr I ys ac ρ σ e ρ' σ' G w a Q hpt hfr hc h hI hs hr hn hK
  cases hc
  simp only [exec, Option.some.injEq, Prod.mk.injEq] at h
  obtain ⟨rfl, rfl, rfl⟩ := h
  exact wpIn_skip (hK [] G w a hs (Aft.of_ext (Ext.refl _ _) rfl) hr hn)
 | label l =>
  intro top fr I ys ac ρ σ e ρ' σ' G w a Q hpt hfr hc h hI hs hr hn hK
  cases hc
  simp only [exec, Option.some.injEq, Prod.mk.injEq] at h
  obtain ⟨rfl, rfl, rfl⟩ := h
  exact wpIn_label (hK [] G w a hs (Aft.of_ext (Ext.refl _ _) rfl) hr hn)
 | region id ops draw =>
  intro top fr I ys ac ρ σ e ρ' σ' G w a Q hpt hfr hc h hI hs hr hn hK
  simp only [cCode] at hc
  cases draw with
  | true =>
   simp only [if_true, Option.map_eq_some_iff] at hc
   obtain ⟨aos, h1, rfl⟩ := hc
   simp only [exec, Option.map_eq_some_iff] at h
   obtain ⟨⟨ρ1, σ1⟩, h2, h3⟩ := h
   cases h3
   exact draw_ok (hcy I ys hpt) hm h1 h2 hI hs hr hn hK.after
  | false =>
   simp only [Bool.false_eq_true, if_false, Option.map_eq_some_iff] at hc
   obtain ⟨aos, h1, rfl⟩ := hc
   simp only [exec, Option.map_eq_some_iff] at h
   obtain ⟨⟨ρ1, σ1⟩, h2, h3⟩ := h
   cases h3
   exact wpIn_region_list (runOps_ok (hcy I ys hpt) h1 h2 hI hs hr hn hK.after)
 | seq x y ihx ihy =>
  intro top fr I ys ac ρ σ e ρ' σ' G w a Q hpt hfr hc h hI hs hr hn hK
  simp only [cCode, Option.bind_eq_some_iff, Option.map_eq_some_iff] at hc
  obtain ⟨ax, h1, ay, h2, rfl⟩ := hc
  simp only [exec, Option.bind_eq_some_iff] at h
  obtain ⟨⟨e1, ρ1, σ1⟩, h3, h4⟩ := h
  refine wpIn_seq ?_
  cases e1 with
  | normal =>
   refine ihx hpt hfr h1 h3 hI hs hr hn ?_
   intro Ds G1 w1 a1 r1 r2 r3 r4
   exact ihy hpt hfr h2 h4 (hpt.aft hI r2) r1 r3 r4 (hK.ext r1.prot r2)
  | exit i =>
   simp only [Option.some.injEq, Prod.mk.injEq] at h4
   obtain ⟨rfl, rfl, rfl⟩ := h4
   exact ihx hpt hfr h1 h3 hI hs hr hn hK
  | ret =>
   simp only [Option.some.injEq, Prod.mk.injEq] at h4
   obtain ⟨rfl, rfl, rfl⟩ := h4
   exact ihx hpt hfr h1 h3 hI hs hr hn hK
 | cond c x y ihx ihy =>
  intro top fr I ys ac ρ σ e ρ' σ' G w a Q hpt hfr hc h hI hs hr hn hK
  simp only [cCode, Option.bind_eq_some_iff, Option.map_eq_some_iff] at hc
  obtain ⟨cc, h0, ax, h1, ay, h2, rfl⟩ := hc
  simp only [exec] at h
  split at h
  · rename_i t ht
    have hv := opd_ok hr h0
    rw [ht] at hv
    have hv := scv hv
    cases t with
    | true => exact wpIn_cond_true hv (ihx hpt hfr h1 h hI hs hr hn hK)
    | false => exact wpIn_cond_false hv (ihy hpt hfr h2 h hI hs hr hn hK)
  · cases h
 | block i b ih =>
  intro top fr I ys ac ρ σ e ρ' σ' G w a Q hpt hfr hc h hI hs hr hn hK
  simp only [cCode, Option.map_eq_some_iff] at hc
  obtain ⟨ab, h1, rfl⟩ := hc
  simp only [exec, Option.map_eq_some_iff] at h
  obtain ⟨⟨e1, ρ1, σ1⟩, h2, h3⟩ := h
  refine wpIn_block ?_
  cases e1 with
  | normal =>
   cases h3
   exact ih hpt hfr h1 h2 hI hs hr hn hK
  | exit j =>
   simp only [Prod.mk.injEq] at h3
   obtain ⟨rfl, rfl, rfl⟩ := h3
   refine ih hpt hfr h1 h2 hI hs hr hn ?_
   intro Ds G1 w1 a1 r1 r2 r3 r4
   have := hK Ds G1 w1 a1 r1 r2 r3 r4
   simp only [Ex.to, Exit.inBlock]
   split
   · rename_i hj; subst hj; simpa [Ex.to] using this
   · rename_i hj; simpa [hj, Ex.to] using this
  | ret =>
   cases h3
   exact ih hpt hfr h1 h2 hI hs hr hn hK
 | loop b ih =>
  intro top fr I ys ac ρ σ e ρ' σ' G w a Q hpt hfr hc h hI hs hr hn hK
  simp only [cCode, Option.map_eq_some_iff] at hc
  obtain ⟨ab, h1, rfl⟩ := hc
  simp only [exec] at h
  exact wpIn_loop_rounds fuel (rounds_ok hpt (fun h' hI' hs' hr' hn' hK' => ih hpt hfr h1 h' hI' hs' hr' hn' hK') fuel h hI hs hr hn hK)
 | exit i =>
  intro top fr I ys ac ρ σ e ρ' σ' G w a Q hpt hfr hc h hI hs hr hn hK
  cases hc
  simp only [exec, Option.some.injEq, Prod.mk.injEq] at h
  obtain ⟨rfl, rfl, rfl⟩ := h
  exact wpIn_exit (hK [] G w a hs (Aft.of_ext (Ext.refl _ _) rfl) hr hn)
 | ret =>
  intro top fr I ys ac ρ σ e ρ' σ' G w a Q hpt hfr hc h hI hs hr hn hK
  cases hc
  simp only [exec, Option.some.injEq, Prod.mk.injEq] at h
  obtain ⟨rfl, rfl, rfl⟩ := h
  exact wpIn_ret (hK [] G w a hs (Aft.of_ext (Ext.refl _ _) rfl) hr hn)
 | rangeFunc g ps x y ihx ihy =>
  intro top fr I ys ac ρ σ e ρ' σ' G w a Q hpt hfr hc h hI hs hr hn hK
  simp only [cCode] at hc
  split at hc
  · rename_i hb
    simp only [Bool.and_eq_true, List.all_eq_true, decide_eq_true_eq] at hb
    obtain ⟨ht, hps⟩ := hb
    have hfr' := hfr ht
    subst hfr'
    subst ht
    simp only [Option.bind_eq_some_iff, Option.map_eq_some_iff] at hc
    obtain ⟨ga, h0, ax, h1, ay, h2, rfl⟩ := hc
    simp only [exec] at h
    split at h
    · rename_i f captured hf
      rw [Option.bind_eq_some_iff] at h
      obtain ⟨⟨v, σ1⟩, h3, h4⟩ := h
      exact rangeFn_ok hcy hpt (fun h' hI' hs' hr' hn' hK' => ihx hpt (fun h => (by cases h)) h1 h' hI' hs' hr' hn' hK') (fun h' hI' hs' hr' hn' hK' => ihy hpt (fun h => (by cases h)) h2 h' hI' hs' hr' hn' hK')
       hps h0 hf h3 h4 hI hs hr hn hK
    · cases h
  · cases hc
 | scope b ih => intro top fr I ys ac ρ σ e ρ' σ' G w a Q hpt hfr hc; cases hc
 | goto l => intro top fr I ys ac ρ σ e ρ' σ' G w a Q hpt hfr hc; cases hc
 | refuse s => intro top fr I ys ac ρ σ e ρ' σ' G w a Q hpt hfr hc; cases hc
def cRes (P : Program) : ResultVar → Option AR
 | .tmp t => some (.tmp t)
 | .cell t ty => (tySize P ty).map fun n => .cell t n
def cFunc (P : Program) (mu : TypeId → Bool) (f : FuncId) : Option AF :=
 (P.funcs[f]?).bind fun fn => if fn.name = "runtime.NumGoroutine" then none else fn.body.bind fun c => (cCode P mu fn.ntmps true c).bind fun ac => (fn.results.toList.mapM (cRes P)).map fun rs => { ntmps := fn.ntmps, code := ac, results := rs }
theorem res_ok {σ : St} {G : Gh} {w : World} {ρ : Env} {tmps : Array Value} (hs : Rs G σ w) (hr : RE G w ρ tmps) : ∀ {rs : List ResultVar} {ars : List AR} {xs : List V}, rs.mapM (cRes P) = some ars → ars.mapM (AR.get ρ σ) = some xs →
  ∃ vs, (rs.mapM (fun | .tmp t => pure (tmps.getD t undef) | .cell a t => do loadVar t (← asAddr (tmps.getD a undef)) : ResultVar → Sem Value)).run P w = .ok vs w ∧ RvL G w xs vs
 | [], ars, xs, hm, hx => by simp at hm; subst hm; simp at hx; subst hx; exact ⟨[], by simp, RvL.nil⟩
 | r :: rs, ars, xs, hm, hx => by
  simp only [List.mapM_cons, Option.bind_eq_bind, Option.bind_eq_some_iff, Option.pure_def, Option.some.injEq] at hm
  obtain ⟨ar, h1, ars', h2, rfl⟩ := hm
  simp only [List.mapM_cons, Option.bind_eq_bind, Option.bind_eq_some_iff, Option.pure_def, Option.some.injEq] at hx
  obtain ⟨x, h3, xs', h4, rfl⟩ := hx
  obtain ⟨vs, k1, k2⟩ := res_ok hs hr h2 h4
  cases r with
  | tmp t =>
   cases h1
   simp only [AR.get, Option.some.injEq] at h3; subst h3
   exact ⟨tmps.getD t undef :: vs, by rw [List.mapM_cons]; simp only [Sem.run_bind, Sem.run_pure, Result.andThen_ok, k1], RvL.cons (hr t) k2⟩
  | cell t ty =>
   simp only [cRes, Option.map_eq_some_iff] at h1
   obtain ⟨n, h1, rfl⟩ := h1
   simp only [AR.get] at h3
   obtain ⟨ad, u, l1, l2, l3⟩ := loadAt_same (tySize_ok h1) hs (hr t) h3
   have hA : (asAddr (tmps.getD t undef)).run P w = .ok ad w := by rw [l1]; rfl
   exact ⟨u :: vs, by rw [List.mapM_cons]; simp only [Sem.run_bind, hA, Sem.run_pure, l2, Result.andThen_ok, k1], RvL.cons l3 k2⟩
theorem results_ok {σ : St} {G : Gh} {w : World} {ρ : Env} {tmps : Array Value} (hs : Rs G σ w) (hr : RE G w ρ tmps) {fn : Func} {ars : List AR} {x : V} (hm : fn.results.toList.mapM (cRes P) = some ars) (hx : resultsOf ρ σ ars = some x) :
  ∃ v, (results fn tmps).run P w = .ok v w ∧ Rv G w x v := by
 unfold resultsOf at hx
 rw [Option.map_eq_some_iff] at hx
 obtain ⟨xs, h1, h2⟩ := hx
 obtain ⟨vs, k1, k2⟩ := res_ok hs hr hm h1
 have k1' : (fn.results.mapM (fun | .tmp t => pure (tmps.getD t undef) | .cell a t => do loadVar t (← asAddr (tmps.getD a undef)) : ResultVar → Sem Value)).run P w = .ok vs.toArray w := by
  rw [Array.mapM_eq_mapM_toList]
  simp only [Sem.run_map, k1, Result.andThen_ok]
 have hrun : (results fn tmps).run P w = .ok (if h : vs.toArray.size = 1 then vs.toArray[0] else .tuple vs.toArray) w := by
  have hdef : results fn tmps = (do
    let vs ← fn.results.mapM (fun | .tmp t => pure (tmps.getD t undef) | .cell a t => do loadVar t (← asAddr (tmps.getD a undef)) : ResultVar → Sem Value)
    pure (if h : vs.size = 1 then vs[0] else .tuple vs)) := rfl
  rw [hdef]
  simp only [Sem.run_bind, k1', Result.andThen_ok, Sem.run_pure]
 refine ⟨_, hrun, ?_⟩
 match xs, k2, h2 with
 | [], k2, h2 =>
  subst h2
  simp only [RvL] at k2; subst k2
  simp only [Rv]; exact ⟨[], rfl, RvL.nil⟩
 | [x1], k2, h2 =>
  simp only at h2; subst h2
  simp only [RvL] at k2
  obtain ⟨v, vs', rfl, h3, rfl⟩ := k2
  exact h3
 | x1 :: x2 :: xs, k2, h2 =>
  simp only at h2; subst h2
  have hl := k2.length
  rw [dif_neg (by simp [hl])]
  simp only [Rv]; exact ⟨vs, rfl, k2⟩
def Table (P : Program) (mu : TypeId → Bool) (tbl : FuncId → Option AF) : Prop := ∀ f af, tbl f = some af → cFunc P mu f = some af
theorem initEnv_ok {G : Gh} {w : World} {args : List V} {vargs : List Value} (h : RvL G w args vargs) (n : Nat) : RE G w (initEnv args) (vargs.toArray ++ Array.replicate (n - vargs.toArray.size) undef) := by
 intro t
 unfold initEnv
 have hl := h.length
 rcases Nat.lt_or_ge t args.length with ht | ht
 · obtain ⟨v, h1, h2⟩ := h.getElem? t args[t] (List.getElem?_eq_getElem ht)
   have e1 : args[t]? = some args[t] := List.getElem?_eq_getElem ht
   rw [e1]
   have e2 : (vargs.toArray ++ Array.replicate (n - vargs.toArray.size) undef).getD t undef = v := by
    rw [Array.getD_eq_getD_getElem?, Array.getElem?_append_left (by simp; omega)]
    simp [h1]
   rw [e2]; exact h2
 · have e1 : args[t]? = none := List.getElem?_eq_none ht
   rw [e1]
   have e2 : (vargs.toArray ++ Array.replicate (n - vargs.toArray.size) undef).getD t undef = undef := by
    rw [Array.getD_eq_getD_getElem?, Array.getElem?_append_right (by simp; omega)]
    simp only [Array.getElem?_replicate]
    split <;> rfl
   rw [e2]; exact Rv.undef
theorem put_mark {G : Gh} {σ : St} {w : World} {D : Nat} {x : Option (List Deferred)} {p0 : Nat → Prop} (h : Rs G σ w) (hD : G.prot D) (hp : ¬ p0 D) (hh : w.heap[D]? = some (.deferred x)) (y : Option (List Deferred)) :
  Rs G σ (w.putObj D (.deferred y)) ∧ Ext (G.withProt p0) w (G.withProt p0) (w.putObj D (.deferred y)) := by
 have hsz : (w.putObj D (.deferred y)).heap.size = w.heap.size := by simp [World.putObj]
 have hlt : D < w.heap.size := h.prot D hD
 have hother : ∀ c, c ≠ D → (w.putObj D (.deferred y)).heap[c]? = w.heap[c]? := fun c hc => World.putObj_heap_other hc
 have hhere : (w.putObj D (.deferred y)).heap[D]? = some (.deferred y) := by simp [World.putObj, hlt]
 have e : Ext (G.withProt p0) w (G.withProt p0) (w.putObj D (.deferred y)) := by
  refine ⟨fun _ _ h => h, fun _ _ h => h, fun _ _ h => h, fun _ => Nat.le_refl _, ?_, ?_, rfl, fun _ _ => rfl, ⟨rfl, rfl, rfl, by rw [hsz]; exact Nat.le_refl _, fun c hc => hother c (fun e => hp (e ▸ hc))⟩⟩
  · intro b i _
    by_cases hb : b = D
    · subst hb
      simp only [World.cell?, hhere, hh]
    · exact World.cell?_of_block (a := ⟨b, i, none⟩) (hother b hb)
  · intro b arr t fz hb
    by_cases hbD : b = D
    · subst hbD; rw [hh] at hb; cases hb
    · exact ⟨arr, fz, (hother b hbD).trans hb, rfl⟩
 refine ⟨⟨fun o x hx => ⟨(h.ob o x hx).1, by rw [hsz]; exact (h.ob o x hx).2⟩, h.tk, h.lp, fun c hc => h.fr c (by rw [← hsz]; exact hc), fun b hb => by rw [hsz]; exact h.prot b hb, ?_, h.sep⟩, e⟩
 intro o z hz
 have hok := h.ok o z hz
 obtain ⟨b0, k0, k1, k2⟩ := hok.lt
 have hne : b0 ≠ D := fun e => k2 (e ▸ hD)
 have h1 : Ok (G.withProt fun _ => False) w o z := hok.prot (fun _ _ h => h)
 have e' : Ext (G.withProt fun _ => False) w (G.withProt fun _ => False) (w.putObj D (.deferred y)) :=
  ⟨e.ob, e.tk, e.lp, e.fr, e.row, e.size, rfl, fun _ _ => rfl, ⟨rfl, rfl, rfl, e.below.size, fun _ hk => hk.elim⟩⟩
 have h2 : Ok (G.withProt fun _ => False) (w.putObj D (.deferred y)) o z := h1.ext e' fun b hb => by
  rw [bl_prot] at hb
  rw [k0] at hb; cases hb
  exact ⟨hother _ hne, rfl⟩
 have h3 := h2.prot (p := G.prot) fun b hb => by
  rw [bl_prot, k0] at hb; cases hb; exact k2
 exact h3
theorem leave_ok {fn : Func} {tmps : Array Value} {σ : St} {ρ : Env} {rs : List AR} {r : V} {G0 : Gh} {w0 : World} (hm : fn.results.toList.mapM (cRes P) = some rs) (hx : resultsOf ρ σ rs = some r) :
  ∀ (Ds : List Nat) (G : Gh) (w : World), Rs G σ w → RE G w ρ tmps → Ds.Nodup → (∀ D ∈ Ds, G.prot D ∧ ¬ G0.prot D ∧ w.heap[D]? = some (.deferred (some []))) → (∀ b, G0.prot b → G.prot b) → Ext G0 w0 (G.withProt G0.prot) w →
   LeavesInM (Fr none) 0 P fn tmps (fun e w' => ∃ G' v, e = .returned v ∧ Rs G' σ w' ∧ Ext G0 w0 G' w' ∧ Rv G' w' r v) (Ds.map mark) .returning w
 | [], G, w, hs, hr, _, _, hp, he => by
  obtain ⟨u, u1, u2⟩ := results_ok hs hr hm hx
  exact ⟨u, u1, G.withProt G0.prot, u, rfl, hs.less hp, he, u2.prot _ _⟩
 | D :: Ds, G, w, hs, hr, hn, hD, hp, he => by
  obtain ⟨h1, h2, h3⟩ := hD D (by simp)
  rw [List.nodup_cons] at hn
  obtain ⟨g1, g2⟩ := put_mark hs h1 h2 h3 none
  refine ⟨by simp, .inl ⟨D, _, rfl, run_takeDeferred h3, ?_⟩⟩
  refine leave_ok hm hx Ds G _ g1 (hr.extP g2) hn.2 ?_ hp (he.trans g2)
  intro E hE
  obtain ⟨k1, k2, k3⟩ := hD E (by simp [hE])
  refine ⟨k1, k2, ?_⟩
  have hne : E ≠ D := by rintro rfl; exact hn.1 hE
  exact (World.putObj_heap_other hne).trans k3
theorem callY_good {tbl : FuncId → Option AF} (ht : Table P mu tbl) (hm : P.follows .mixedOrders = true) : ∀ n, GoodCy P (callY tbl n)
 | 0 => fun I ys hpt => ⟨hpt.st, fun f args σ r σ' h => (by cases h), hpt.yl⟩
 | n + 1 => by
  have ih := callY_good ht hm n
  intro I ys hpt
  refine ⟨hpt.st, ?_, hpt.yl⟩
  intro f args σ r σ' h
  simp only [callY, Option.bind_eq_some_iff] at h
  obtain ⟨af, h1, h⟩ := h
  have hc := ht f af h1
  simp only [cFunc, Option.bind_eq_some_iff] at hc
  obtain ⟨fn, c1, hc⟩ := hc
  split at hc
  · cases hc
  · rename_i hname
    simp only [Option.bind_eq_some_iff, Option.map_eq_some_iff] at hc
    obtain ⟨c, c2, ac, c3, rs, c4, rfl⟩ := hc
    refine ⟨⟨fn, c, c1, c2, hname⟩, ?_⟩
    intro G w vargs hI hs ha
    split at h
    · rename_i hlen
      simp only at hlen h
      rw [Option.bind_eq_some_iff] at h
      obtain ⟨⟨e, ρ', σ1⟩, h2, h3⟩ := h
      have key : CallsIn (Fr none) 0 P f vargs.toArray w fun e w' => ∃ G' v, e = .returned v ∧ Rs G' σ' w' ∧ Ext G w G' w' ∧ Rv G' w' r v := by
       refine callsIn_of_wp_marks c1 c2 trivial ?_
       refine exec_ok (top := true) (fr := none) (a := { tmps := vargs.toArray ++ Array.replicate (fn.ntmps - vargs.toArray.size) undef, defers := [] }) ih hm c hpt (fun _ => rfl) c3 h2 hI hs (initEnv_ok ha _) ?_ ?_
       · have := ha.length
         simp only [Array.size_append, List.size_toArray, Array.size_replicate]; omega
       · intro Ds G' w' a' r1 r2 r3 r4
         have fin : ∀ v, resultsOf ρ' σ1 rs = some v → (v, σ1) = (r, σ') → LeavesInM (Fr none) 0 P fn a'.tmps (fun e w' => ∃ G' v, e = .returned v ∧ Rs G' σ' w' ∧ Ext G w G' w' ∧ Rv G' w' r v) a'.defers .returning w' := by
          intro v hv he
          cases he
          rw [r2.defers, List.append_nil]
          refine leave_ok c4 hv Ds G' w' r1 r3 r2.nodup ?_ r2.protSub r2.ext
          intro D hD
          refine ⟨(r2.prot D).2 (.inr hD), fun h => ?_, (r2.new D hD).2⟩
          have := hs.prot D h
          have := (r2.new D hD).1
          omega
         cases e with
         | exit i => cases h3
         | normal =>
          simp only [Option.map_eq_some_iff] at h3
          obtain ⟨v, h3, h4⟩ := h3
          exact fin v h3 h4
         | ret =>
          simp only [Option.map_eq_some_iff] at h3
          obtain ⟨v, h3, h4⟩ := h3
          exact fin v h3 h4
      exact callsIn_wide.1 key
    · cases h
theorem callN_good {tbl : FuncId → Option AF} (ht : Table P mu tbl) (hm : P.follows .mixedOrders = true) (n : Nat) : Good P (fun _ _ => True) ⟨callN tbl n, noYl⟩ :=
 callY_good ht hm n _ _ ⟨fun _ _ => trivial, fun _ _ _ _ _ h => (by cases h)⟩
end
end Go.Ab
