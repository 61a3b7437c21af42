/- Locals in registers: regions, code, functions, tables. -/
import Derived.Test.YtehdjkikcfeiaaaGreatAbO
namespace Go.Ab
set_option linter.unusedVariables false
section
variable {L F : List Nat} {k : Nat} {ra ra' rb rb' : Env} {a b a' b' : St} {c d : CallF}
structure Tr1 (c d : CallF) (L F : List Nat) (k : Nat) (os os' : List AOper) (obs : Obs) (ra : Env) (a : St) (rb : Env) (b : St) (lh : List Step) (SA : List St) (ra' : Env) (a' : St) (l : List Step) (SB : List St) (rb' : Env) (b' : St) : Prop where
 tr : traceOps d os rb b = some (l, SB, rb', b')
 lr : LR L F k ra' a' rb' b'
 e : E2 k a b a' b'
 len : SA.length = SB.length
 sims : ∀ (i : Nat) x y, SA[i]? = some x → SB[i]? = some y → Sim x y
 const : ∀ r cs o, inS L r = true → (∀ o' ∈ os', o'.dst ≠ some r) → ra r = .agg cs → rb r = .ptr o 0 → ∀ y ∈ SB, y.get o = some (.cells cs)
 effs : SB.length = effN os + 1
 sok : ∀ s ∈ l, SOK c d L os' obs ra rb lh s
theorem SOK.weaken {os' os2 : List AOper} {obs obs2 : Obs} {ra1 rb1 : Env} {lh lh2 : List Step} {s : Step} (h : SOK c d L os' obs ra1 rb1 lh s) (h1 : ∀ o ∈ os', o ∈ os2) (h2 : ∀ p ∈ obs, p ∈ obs2) (h3 : ∀ s ∈ lh, s ∈ lh2)
  (h4 : ∀ r cs o, inS L r = true → (∀ o' ∈ os2, o'.dst ≠ some r) → ra1 r = .agg cs → rb1 r = .ptr o 0 → ra r = .agg cs ∧ rb r = .ptr o 0) : SOK c d L os2 obs2 ra rb lh2 s := by
 rcases h with h | h | ⟨r, o, cs, q1, q2, q3, q4⟩ | ⟨sh, q1, q2⟩
 · exact .inl h
 · exact .inr (.inl h)
 · refine .inr (.inr (.inl ⟨r, o, cs, h2 _ q1, q2, fun hr => ?_, q4⟩))
   obtain ⟨q5, q6⟩ := q3 fun o' ho' => hr o' (h1 o' ho')
   exact h4 r cs o q2 hr q5 q6
 · exact .inr (.inr (.inr ⟨sh, h3 sh q1, q2⟩))
theorem effL_length (o : AOper) (x : St) (ss : List St) : (effL o x ss).length = cond (isEff o) (ss.length + 1) ss.length := by
 unfold effL; cases isEff o <;> rfl
theorem Tr1.cons {o o' : AOper} {os os' : List AOper} {ob obs : Obs} {m' : List Ent} {v u : V} {a1 b1 : St} {ran : Bool} {lh : List Step} {SA : List St} {l : List Step} {SB : List St}
  (hl : LR L F k ra a rb b) (h : Hd1 c d L F k o o' ob m' ra a rb b v a1 ran u b1) (t : Tr1 c d L F k os os' obs (put ra o'.dst v) a1 (put rb o.dst u) b1 lh SA ra' a' l SB rb' b') :
  Tr1 c d L F k (o :: os) (o' :: os') (ob ++ obs) ra a rb b (⟨o', ra, v, ran⟩ :: lh) (effL o' a SA) ra' a' (⟨o, rb, u, ran⟩ :: l) (effL o b SB) rb' b' := by
 refine ⟨trace_mk h.one t.tr, t.lr, h.e.trans t.e, ?_, ?_, ?_, ?_, ?_⟩
 · rw [effL_length, effL_length, h.eff, t.len]
 · unfold effL
   rw [h.eff]
   cases isEff o with
   | false => exact t.sims
   | true =>
    intro i x y hx hy
    cases i with
    | zero =>
     simp only [cond_true, List.getElem?_cons_zero, Option.some.injEq] at hx hy
     subst hx; subst hy
     exact hl.sim
    | succ i =>
     simp only [cond_true, List.getElem?_cons_succ] at hx hy
     exact t.sims i x y hx hy
 · intro r cs p hr hn h1 h2
   have hd' : o'.dst ≠ some r := hn o' List.mem_cons_self
   have hd := h.dst r hr hd'
   have ht := t.const r cs p hr (fun o2 ho2 => hn o2 (List.mem_cons_of_mem _ ho2)) (by rw [putE_ne hd']; exact h1) (by rw [putE_ne hd]; exact h2)
   unfold effL
   cases isEff o with
   | false => exact ht
   | true =>
    intro y hy
    rcases List.mem_cons.1 hy with rfl | hy
    · obtain ⟨p', q1, q2, _⟩ := hl.loc r hr cs h1
      rw [h2] at q1
      cases q1
      exact q2
    · exact ht y hy
 · rw [effL_length, effN, t.effs]
   cases isEff o <;> rfl
 · intro s hs
   rcases List.mem_cons.1 hs with rfl | hs
   · exact h.sok _ _ _ (fun p hp => List.mem_append_left _ hp) List.mem_cons_self List.mem_cons_self
   · refine (t.sok s hs).weaken (fun o ho => List.mem_cons_of_mem _ ho) (fun p hp => List.mem_append_right _ hp) (fun s hs => List.mem_cons_of_mem _ hs) ?_
     intro r cs p hr hn h1 h2
     have hd' : o'.dst ≠ some r := hn o' List.mem_cons_self
     rw [putE_ne hd'] at h1
     rw [putE_ne (h.dst r hr hd')] at h2
     exact ⟨h1, h2⟩
theorem Tr1.skip {o : AOper} {os os' : List AOper} {obs : Obs} {u : V} {ran : Bool} {lh : List Step} {SA : List St} {l : List Step} {SB : List St}
  (hone : One d o rb b u b ran) (he : isEff o = false) (hs : o.see = []) (hd : ∀ r, inS L r = true → o.dst ≠ some r) (t : Tr1 c d L F k os os' obs ra a (put rb o.dst u) b lh SA ra' a' l SB rb' b') :
  Tr1 c d L F k (o :: os) os' obs ra a rb b lh SA ra' a' (⟨o, rb, u, ran⟩ :: l) (effL o b SB) rb' b' := by
 have hh : effL o b SB = SB := by unfold effL; rw [he]; rfl
 rw [hh]
 refine ⟨by rw [← hh]; exact trace_mk hone t.tr, t.lr, t.e, t.len, t.sims, ?_, ?_, ?_⟩
 · intro r cs p hr hn h1 h2
   exact t.const r cs p hr hn h1 (by rw [putE_ne (hd r hr)]; exact h2)
 · rw [effN, he, t.effs]; rfl
 · intro s hs'
   rcases List.mem_cons.1 hs' with rfl | hs'
   · exact .inl hs
   · refine (t.sok s hs').weaken (fun o ho => ho) (fun p hp => hp) (fun s hs => hs) ?_
     intro r cs p hr hn h1 h2
     rw [putE_ne (hd r hr)] at h2
     exact ⟨h1, h2⟩
theorem isEmpty_nil {l : List Nat} (h : l.isEmpty = true) : l = [] := by cases l <;> first | rfl | cases h
theorem trace_sim (hc : CS c d) (hLF : ∀ t, inS L t = true → inS F t = true) : ∀ {os : List AOper} {m : List Ent} {os' : List AOper} {obs : Obs} {ra : Env} {a : St} {rb : Env} {b : St} {lh : List Step} {SA : List St} {ra' : Env} {a' : St},
  tOps L F m os = some (os', obs) → LR L F k ra a rb b → EntOK L m rb → traceOps c os' ra a = some (lh, SA, ra', a') → ∃ l SB rb' b', Tr1 c d L F k os os' obs ra a rb b lh SA ra' a' l SB rb' b'
 | [], m, os', obs, ra, a, rb, b, lh, SA, ra', a', ht, h, hm, htr => by
  cases ht
  cases htr
  refine ⟨[], [b], rb, b, rfl, h, E2.refl h.sim, rfl, ?_, ?_, rfl, by simp⟩
  · intro i x y hx hy
    cases i with
    | zero => cases hx; cases hy; exact h.sim
    | succ i => simp at hx
  · intro r cs p hr _ h1 h2 y hy
    simp only [List.mem_singleton] at hy
    subst hy
    obtain ⟨p', q1, q2, _⟩ := h.loc r hr cs h1
    rw [h2] at q1
    cases q1
    exact q2
 | o :: os, m, os', obs, ra, a, rb, b, lh, SA, ra', a', ht, h, hm, htr => by
  simp only [tOps, Option.bind_eq_some_iff, Option.map_eq_some_iff] at ht
  obtain ⟨⟨es, m', ob⟩, ht1, ⟨os2, obs2⟩, ht2, ht3⟩ := ht
  cases ht3
  dsimp only at ht2 htr ⊢
  -- one operation for one
  have go : ∀ (o' : AOper) (ob' : Obs), es = [o'] → ob = ob' → (∀ v a1 ran, One c o' ra a v a1 ran → ∃ u b1, Hd1 c d L F k o o' ob' m' ra a rb b v a1 ran u b1) → ∃ l SB rb' b', Tr1 c d L F k (o :: os) (es ++ os2) (ob ++ obs2) ra a rb b lh SA ra' a' l SB rb' b' := by
   intro o' ob' he hob hh
   subst he
   subst hob
   obtain ⟨v, a1, ran, l, ss, k1, k2, rfl, rfl⟩ := trace_inv htr
   obtain ⟨u, b1, hd⟩ := hh v a1 ran k1
   obtain ⟨l2, SB, rb', b', ht⟩ := trace_sim hc hLF ht2 hd.lr hd.ent k2
   exact ⟨_, _, rb', b', Tr1.cons h hd ht⟩
  have gen : genH F m o = some (es, m', ob) → ∃ l SB rb' b', Tr1 c d L F k (o :: os) (es ++ os2) (ob ++ obs2) ra a rb b lh SA ra' a' l SB rb' b' := by
   intro hg
   obtain ⟨h1, h2⟩ := gen_ok hc hLF hg h hm
   exact go o ob h1 rfl h2
  obtain ⟨dst, op, g, see⟩ := o
  cases op with
  | box x =>
   cases dst with
   | none => exact gen ht1
   | some dd =>
    simp only [tHead] at ht1
    cases hd : inS L dd with
    | false => rw [hd, cond_false] at ht1; exact gen ht1
    | true =>
     rw [hd, cond_true] at ht1
     cases hcnd : (cleanO F x && (cleanG F g && see.isEmpty)) with
     | false => rw [hcnd, cond_false] at ht1; cases ht1
     | true =>
      rw [hcnd, cond_true] at ht1
      simp only [Bool.and_eq_true] at hcnd
      obtain ⟨q1, q2, q3⟩ := hcnd
      have := isEmpty_nil q3
      subst this
      simp only [Option.some.injEq, Prod.mk.injEq] at ht1
      obtain ⟨t1, t2, t3⟩ := ht1
      subst t2
      exact go _ _ t1.symm t3.symm fun v a1 ran ho => boxL_ok hLF hd q1 q2 h hm ho
  | load n x =>
   cases x with
   | c v => exact gen ht1
   | t t =>
    simp only [tHead] at ht1
    cases hl : locOf L m g t with
    | none => rw [hl] at ht1; exact gen ht1
    | some p =>
     obtain ⟨r, off⟩ := p
     rw [hl] at ht1
     dsimp only at ht1
     cases hcnd : (cleanD F dst && cleanG F g) with
     | false => rw [hcnd, cond_false] at ht1; cases ht1
     | true =>
      rw [hcnd, cond_true] at ht1
      simp only [Bool.and_eq_true] at hcnd
      simp only [Option.some.injEq, Prod.mk.injEq] at ht1
      obtain ⟨t1, t2, t3⟩ := ht1
      subst t2
      exact go _ _ t1.symm t3.symm fun v a1 ran ho => loadL_ok hLF hl hcnd.1 hcnd.2 h hm ho
  | store n x y =>
   cases x with
   | c v => exact gen ht1
   | t t =>
    simp only [tHead] at ht1
    cases hl : locOf L m g t with
    | none => rw [hl] at ht1; exact gen ht1
    | some p =>
     obtain ⟨r, off⟩ := p
     rw [hl] at ht1
     dsimp only at ht1
     cases hcnd : (dst.isNone && (Option.isNone g && (see.isEmpty && cleanO F y))) with
     | false => rw [hcnd, cond_false] at ht1; cases ht1
     | true =>
      rw [hcnd, cond_true] at ht1
      simp only [Bool.and_eq_true, Option.isNone_iff_eq_none] at hcnd
      obtain ⟨rfl, rfl, q3, q4⟩ := hcnd
      have := isEmpty_nil q3
      subst this
      simp only [Option.some.injEq, Prod.mk.injEq] at ht1
      obtain ⟨t1, t2, t3⟩ := ht1
      subst t2
      exact go _ _ t1.symm t3.symm fun v a1 ran ho => storeL_ok hLF hl q4 h hm ho
  | place off x =>
   cases x with
   | c v => exact gen ht1
   | t t =>
    simp only [tHead] at ht1
    cases hl : locOf L m g t with
    | none => rw [hl] at ht1; exact gen ht1
    | some p =>
     obtain ⟨r, off0⟩ := p
     rw [hl] at ht1
     cases dst with
     | none => cases ht1
     | some dd =>
      dsimp only at ht1
      cases hcnd : (inS F dd && (!(inS L dd) && (cleanG F g && see.isEmpty))) with
      | false => rw [hcnd, cond_false] at ht1; cases ht1
      | true =>
       rw [hcnd, cond_true] at ht1
       simp only [Bool.and_eq_true, Bool.not_eq_true'] at hcnd
       obtain ⟨q1, q2, q3, q4⟩ := hcnd
       have := isEmpty_nil q4
       subst this
       simp only [Option.some.injEq, Prod.mk.injEq] at ht1
       obtain ⟨t1, t2, t3⟩ := ht1
       subst t2
       subst t3
       have hr := (locOf_ok hm hl).1
       have hdst : ∀ r', inS L r' = true → (some dd : Option Nat) ≠ some r' := fun r' hr' he => by cases he; rw [q2] at hr'; cases hr'
       cases hun : usesNext dd g os with
       | true =>
        rw [hun, cond_true] at t1
        subst t1
        rw [List.nil_append] at htr ⊢
        obtain ⟨u, w1, w2, w3⟩ := place_ok' (d := d) hl q1 q2 q3 h hm fun hw => agg_next hr q2 hun ht2 htr hw
        obtain ⟨l2, SB, rb', b', ht⟩ := trace_sim hc hLF ht2 w2 w3 htr
        exact ⟨_, _, rb', b', Tr1.skip w1 rfl rfl hdst ht⟩
       | false =>
        rw [hun, cond_false] at t1
        refine go _ _ t1.symm rfl fun v a1 ran ho => ?_
        have hagg : wanted ra g = true → ∃ cs, ra r = .agg cs := by
         intro hw
         rcases ho with ⟨_, h2, _⟩ | ⟨h1, _⟩
         · simp only [AOp.run, AO.eval, Option.map_eq_some_iff] at h2
           obtain ⟨u, h2, _⟩ := h2
           unfold aPartOf at h2
           split at h2
           · rename_i cs hcs; exact ⟨cs, hcs⟩
           · cases h2
         · dsimp only at h1; rw [hw] at h1; cases h1
        have ha1 : a1 = a ∧ ran = wanted ra g := by
         rcases ho with ⟨h1, h2, h3⟩ | ⟨h1, _, h2, h3⟩
         · simp only [AOp.run, AO.eval, Option.map_eq_some_iff] at h2
           obtain ⟨u, _, h2⟩ := h2
           cases h2
           exact ⟨rfl, by rw [h3]; exact h1.symm⟩
         · exact ⟨h2, by rw [h3]; exact h1.symm⟩
        obtain ⟨rfl, rfl⟩ := ha1
        obtain ⟨u, w1, w2, w3⟩ := place_ok' (d := d) hl q1 q2 q3 h hm hagg
        exact ⟨u, b, w1, w2, E2.refl h.sim, w3, rfl, fun r' hr' _ => hdst r' hr', fun _ _ _ _ _ _ => .inl rfl⟩
  | _ => exact gen ht1
theorem see_steps {c : CallF} : ∀ {os : List AOper} {ρ : Env} {σ : St} {l : List Step} {ss : List St} {r : Env × St}, traceOps c os ρ σ = some (l, ss, r) → ∀ s ∈ l, s.o ∈ os
 | [], ρ, σ, l, ss, r, h, s, hs => by cases h; cases hs
 | o :: os, ρ, σ, l, ss, r, h, s, hs => by
  obtain ⟨v, σ1, ran, l', ss', _, h2, rfl, rfl⟩ := trace_inv h
  rcases List.mem_cons.1 hs with rfl | hs
  · exact List.mem_cons_self
  · exact List.mem_cons_of_mem _ (see_steps h2 s hs)
theorem alike_nil {c : CallF} {ss : List St} {s : Step} (h : s.o.see = []) : s.alike c ss = true := by simp [Step.alike, h]
theorem dst_any {os : List AOper} {r : Nat} (h : os.any (dstIs r) = false) : ∀ o ∈ os, o.dst ≠ some r := by
 intro o ho he
 have : os.any (dstIs r) = true := List.any_eq_true.2 ⟨o, ho, by simp [dstIs, he, Nat.beq_refl]⟩
 rw [h] at this
 cases this
theorem alike_ok {os os' : List AOper} {obs : Obs} {lh : List Step} {SA : List St} {l : List Step} {SB : List St} (t : Tr1 c d L F k os os' obs ra a rb b lh SA ra' a' l SB rb' b') (ho : obs.all (obOk os os') = true) (ha : ∀ s ∈ lh, s.alike c SA = true) :
  ∀ s ∈ l, s.alike d SB = true := by
 intro s hs
 rcases t.sok s hs with h | h | ⟨r, o, cs, q1, q2, q3, q4⟩ | ⟨sh, q1, q2, q3, q4, q5⟩
 · exact alike_nil h
 · simp [Step.alike, h]
 · have hob := List.all_eq_true.1 ho _ q1
   simp only [obOk, Bool.or_eq_true, Bool.and_eq_true, Bool.not_eq_true'] at hob
   rcases hob with hob | ⟨h1, h2⟩
   · exact alike_nil (isEmpty_nil hob)
   · have hd := dst_any h1
     obtain ⟨h3, h4⟩ := q3 hd
     have hcst := t.const r cs o q2 hd h3 h4
     simp only [Step.alike, Bool.or_eq_true, Bool.not_eq_true']
     right
     rw [List.all_eq_true]
     intro x hx
     have hle := Nat.le_of_ble_eq_true (List.all_eq_true.1 h2 x hx)
     have hlt : x < SB.length := by rw [t.effs]; omega
     rw [List.getElem?_eq_getElem hlt]
     simp only [decide_eq_true_eq]
     exact q4 _ (hcst _ (List.getElem_mem hlt))
 · have h1 := ha sh q1
   simp only [Step.alike, Bool.or_eq_true, Bool.not_eq_true'] at h1 ⊢
   rcases h1 with h1 | h1
   · left; rw [← q3]; exact h1
   · right
     rw [List.all_eq_true] at h1 ⊢
     intro x hx
     have := h1 x (by rw [q2]; exact hx)
     split at this
     · rename_i y hy
       have hlt := (List.getElem?_eq_some_iff.1 hy).1
       rw [t.len] at hlt
       rw [List.getElem?_eq_getElem hlt]
       simp only [decide_eq_true_eq] at this ⊢
       rw [← q4]
       exact q5 _ _ (t.sims x _ _ hy (List.getElem?_eq_getElem hlt)) _ this
     · cases this
theorem LR.ent (h : LR L F k ra a rb b) : EntOK L [] rb := ⟨fun e he => absurd he List.not_mem_nil, fun e he => absurd he List.not_mem_nil⟩
variable {cy dy : YlF → FnF} {ys zs : YlF} {fuel : Nat}
def ExS (L F : List Nat) (f g : Env → St → Option (Ex × Env × St)) : Prop :=
 ∀ k ra a rb b e ra' a', LR L F k ra a rb b → f ra a = some (e, ra', a') → ∃ rb' b', g rb b = some (e, rb', b') ∧ LR L F k ra' a' rb' b' ∧ E2 k a b a' b'
theorem region_sim (hLF : ∀ t, inS L t = true → inS F t = true) (hc : CS ⟨cy ys, ys⟩ ⟨dy zs, zs⟩) {dr : Bool} {os : List AOper} {c' : AC} (ht : tRegion L F dr os = some c') : ExS L F (exec cy ys fuel c') (exec dy zs fuel (.region dr os)) := by
 intro k ra a rb b e ra' a' h hx
 unfold tRegion at ht
 rw [Option.bind_eq_some_iff] at ht
 obtain ⟨⟨os', obs⟩, h1, h2⟩ := ht
 dsimp only at h2
 -- whatever way the turned one is run
 have key : ∀ dr', exec cy ys fuel (.region dr' os') ra a = some (e, ra', a') → e = .normal ∧ ∃ lh SA, traceOps ⟨cy ys, ys⟩ os' ra a = some (lh, SA, ra', a') ∧ (dr' = true → lh.all (Step.alike ⟨cy ys, ys⟩ SA) = true) := by
  intro dr' hx
  cases dr' with
  | false =>
   simp only [exec, run_trace, Option.map_map, Option.map_eq_some_iff] at hx
   obtain ⟨⟨lh, SA, r, s⟩, h3, h4⟩ := hx
   cases h4
   exact ⟨rfl, lh, SA, h3, fun h => by cases h⟩
  | true =>
   simp only [exec, runDraw, Option.map_eq_some_iff, Option.bind_eq_some_iff] at hx
   obtain ⟨⟨r, s⟩, ⟨⟨lh, SA, r', s'⟩, h3, h4⟩, h5⟩ := hx
   dsimp only at h4
   split at h4
   · rename_i hal
     cases h4
     cases h5
     exact ⟨rfl, lh, SA, h3, fun _ => hal⟩
   · cases h4
 cases dr with
 | false =>
  rw [cond_false] at h2
  cases h2
  obtain ⟨rfl, lh, SA, h3, _⟩ := key _ hx
  obtain ⟨l, SB, rb', b', t⟩ := trace_sim hc hLF h1 h h.ent h3
  refine ⟨rb', b', ?_, t.lr, t.e⟩
  simp only [exec, run_trace, t.tr, Option.map_some]
 | true =>
  rw [cond_true] at h2
  cases hob : obs.all (obOk os os') with
  | false => rw [hob, cond_false] at h2; cases h2
  | true =>
   rw [hob, cond_true] at h2
   cases h2
   obtain ⟨rfl, lh, SA, h3, h4⟩ := key _ hx
   obtain ⟨l, SB, rb', b', t⟩ := trace_sim hc hLF h1 h h.ent h3
   have hal : ∀ s ∈ lh, s.alike ⟨cy ys, ys⟩ SA = true := by
    intro s hs
    cases hsee : (os'.any fun o => !o.see.isEmpty) with
    | true => exact List.all_eq_true.1 (h4 hsee) s hs
    | false =>
     refine alike_nil ?_
     have hm := see_steps h3 s hs
     cases hq : s.o.see with
     | nil => rfl
     | cons x xs =>
      have : (os'.any fun o => !o.see.isEmpty) = true := List.any_eq_true.2 ⟨s.o, hm, by rw [hq]; rfl⟩
      rw [hsee] at this
      cases this
   refine ⟨rb', b', ?_, t.lr, t.e⟩
   have := List.all_eq_true.2 (alike_ok t hob hal)
   simp only [exec, runDraw, t.tr, Option.bind_some, this, if_true, Option.map_some]
theorem iter_sim {f g : Env → St → Option (Ex × Env × St)} (h : ExS L F f g) : ∀ n, ExS L F (iter f n) (iter g n)
 | 0 => by
  intro k ra a rb b e ra' a' _ hx
  cases hx
 | n + 1 => by
  intro k ra a rb b e ra' a' hl hx
  simp only [iter, Option.bind_eq_some_iff] at hx
  obtain ⟨⟨e1, r1, s1⟩, h1, h2⟩ := hx
  obtain ⟨rb1, b1, h3, h4, h5⟩ := h _ _ _ _ _ _ _ _ hl h1
  cases e1 with
  | normal =>
   dsimp only at h2
   obtain ⟨rb2, b2, h6, h7, h8⟩ := iter_sim h n _ _ _ _ _ _ _ _ h4 h2
   exact ⟨rb2, b2, by simp only [iter, h3, Option.bind_some]; exact h6, h7, h5.trans h8⟩
  | exit i => cases h2; exact ⟨rb1, b1, by simp only [iter, h3, Option.bind_some], h4, h5⟩
  | ret => cases h2; exact ⟨rb1, b1, by simp only [iter, h3, Option.bind_some], h4, h5⟩
theorem resets_run {c : CallF} : ∀ {l : List Nat} {ρ : Env} {σ : St}, ∃ ρ', runOps c (l.map resetOp) ρ σ = some (ρ', σ) ∧ (∀ t, t ∈ l → ρ' t = .undef) ∧ ∀ t, t ∉ l → ρ' t = ρ t
 | [], ρ, σ => ⟨ρ, rfl, fun t ht => by (cases ht), fun _ _ => rfl⟩
 | x :: l, ρ, σ => by
  obtain ⟨ρ', h1, h2, h3⟩ := resets_run (c := c) (l := l) (ρ := upd ρ x .undef) (σ := σ)
  refine ⟨ρ', by simpa only [List.map_cons, resetOp, runOps, wanted, cond_true, AOp.run, AO.eval, Option.bind_some, put] using h1, fun t ht => ?_, fun t ht => ?_⟩
  · by_cases hl : t ∈ l
    · exact h2 t hl
    · rcases List.mem_cons.1 ht with rfl | ht
      · rw [h3 t hl, upd_self]
      · exact absurd ht hl
  · rw [List.mem_cons, not_or] at ht
    rw [h3 t ht.2, upd_other ht.1]
theorem bindPs_same {ps : List Nat} (hp : ps.all (fun t => !inS F t) = true) : ∀ {args : List V} {ra rb : Env}, (∀ t, inS F t = false → ra t = rb t) → ∀ t, inS F t = false → bindPs ra ps args t = bindPs rb ps args t := by
 induction ps with
 | nil => intro args ra rb h t ht; exact h t ht
 | cons p ps ih =>
  intro args ra rb h t ht
  simp only [List.all_cons, Bool.and_eq_true] at hp
  cases args with
  | nil => exact h t ht
  | cons x args =>
   simp only [bindPs, List.zip_cons_cons, List.foldl_cons]
   refine ih hp.2 (args := args) (fun u hu => ?_) t ht
   by_cases he : u = p
   · subst he; simp only [upd_self]
   · simp only [upd_other he]; exact h u hu
theorem inS_filter {l m : List Nat} {t : Nat} (h : inS (l.filter (inS m)) t = true) : inS l t = true := by
 rw [inS_iff] at h ⊢
 exact (List.mem_filter.1 h).1
theorem after_sim {kk : Nat} {e : Ex} (hs : Sim a b) (h : aAfter kk ra a = some (e, ra', a')) (rb : Env) : ra' = ra ∧ ∃ y, a.get kk = some y ∧ a' = a.put kk none ∧ aAfter kk rb b = some (e, rb, b.put kk none) := by
 unfold aAfter at h ⊢
 cases hg : a.get kk with
 | none => rw [hg] at h; cases h
 | some y =>
  rw [hg] at h
  rw [hs.get _ _ hg]
  cases y with
  | loop st pe =>
   cases st <;> (cases pe with
    | none => first | (cases h; done) | (cases h; exact ⟨rfl, _, rfl, rfl, rfl⟩)
    | some e0 => cases e0 <;> first | (cases h; done) | (cases h; exact ⟨rfl, _, rfl, rfl, rfl⟩))
  | _ => cases h
theorem code_sim (hcy : ∀ ys zs : YlF, (∀ j, FnS (ys j) (zs j)) → ∀ f, FnS (cy ys f) (dy zs f)) (hy : ∀ j, FnS (ys j) (zs j)) : ∀ {c : AC} {L : List Nat} {c' : AC}, (∀ t, inS L t = true → inS F t = true) → tCode F L c = some c' → ExS L F (exec cy ys fuel c') (exec dy zs fuel c)
 | .skip, L, c', hLF, ht => by
  cases ht
  intro k ra a rb b e ra' a' h hx
  cases hx
  exact ⟨rb, b, rfl, h, E2.refl h.sim⟩
 | .exit i, L, c', hLF, ht => by
  cases ht
  intro k ra a rb b e ra' a' h hx
  cases hx
  exact ⟨rb, b, rfl, h, E2.refl h.sim⟩
 | .ret, L, c', hLF, ht => by
  cases ht
  intro k ra a rb b e ra' a' h hx
  cases hx
  exact ⟨rb, b, rfl, h, E2.refl h.sim⟩
 | .region dr os, L, c', hLF, ht => region_sim hLF ⟨hcy ys zs hy, hy⟩ (by simpa only [tCode] using ht)
 | .seq x y, L, c', hLF, ht => by
  simp only [tCode, Option.bind_eq_some_iff, Option.map_eq_some_iff] at ht
  obtain ⟨x', h1, y', h2, rfl⟩ := ht
  intro k ra a rb b e ra' a' h hx
  simp only [exec, Option.bind_eq_some_iff] at hx
  obtain ⟨⟨e1, r1, s1⟩, h3, h4⟩ := hx
  obtain ⟨rb1, b1, h5, h6, h7⟩ := code_sim hcy hy hLF h1 _ _ _ _ _ _ _ _ h h3
  cases e1 with
  | normal =>
   dsimp only at h4
   obtain ⟨rb2, b2, h8, h9, h10⟩ := code_sim hcy hy hLF h2 _ _ _ _ _ _ _ _ h6 h4
   exact ⟨rb2, b2, by simp only [exec, h5, Option.bind_some]; exact h8, h9, h7.trans h10⟩
  | exit i => cases h4; exact ⟨rb1, b1, by simp only [exec, h5, Option.bind_some], h6, h7⟩
  | ret => cases h4; exact ⟨rb1, b1, by simp only [exec, h5, Option.bind_some], h6, h7⟩
 | .cond q x y, L, c', hLF, ht => by
  simp only [tCode] at ht
  cases hq : cleanO F q with
  | false => rw [hq, cond_false] at ht; cases ht
  | true =>
   rw [hq, cond_true] at ht
   simp only [Option.bind_eq_some_iff, Option.map_eq_some_iff] at ht
   obtain ⟨x', h1, y', h2, rfl⟩ := ht
   intro k ra a rb b e ra' a' h hx
   simp only [exec, eval_clean h hq] at hx ⊢
   split at hx
   · rename_i t _
     cases t with
     | true => exact code_sim hcy hy hLF h1 _ _ _ _ _ _ _ _ h hx
     | false => exact code_sim hcy hy hLF h2 _ _ _ _ _ _ _ _ h hx
   · cases hx
 | .block i x, L, c', hLF, ht => by
  simp only [tCode, Option.map_eq_some_iff] at ht
  obtain ⟨x', h1, rfl⟩ := ht
  intro k ra a rb b e ra' a' h hx
  simp only [exec, Option.map_eq_some_iff] at hx
  obtain ⟨⟨e1, r1, s1⟩, h3, h4⟩ := hx
  obtain ⟨rb1, b1, h5, h6, h7⟩ := code_sim hcy hy hLF h1 _ _ _ _ _ _ _ _ h h3
  cases e1 with
  | exit j => cases h4; exact ⟨rb1, b1, by simp only [exec, h5, Option.map_some], h6, h7⟩
  | normal => cases h4; exact ⟨rb1, b1, by simp only [exec, h5, Option.map_some], h6, h7⟩
  | ret => cases h4; exact ⟨rb1, b1, by simp only [exec, h5, Option.map_some], h6, h7⟩
 | .loop x, L, c', hLF, ht => by
  simp only [tCode, Option.map_eq_some_iff] at ht
  obtain ⟨x', h1, rfl⟩ := ht
  exact iter_sim (code_sim hcy hy hLF h1) fuel
 | .rangeFn f ps x y, L, c', hLF, ht => by
  simp only [tCode] at ht
  cases hcl : (cleanO F f && ps.all (fun t => !inS F t)) with
  | false => rw [hcl, cond_false] at ht; cases ht
  | true =>
   rw [hcl, cond_true] at ht
   generalize hI : L.filter (inS (boxes x ++ boxes y)) = I at ht
   simp only [Option.bind_eq_some_iff, Option.map_eq_some_iff] at ht
   obtain ⟨x', h1, y', h2, rfl⟩ := ht
   simp only [Bool.and_eq_true] at hcl
   have hIF : ∀ t, inS I t = true → inS F t = true := fun t ht => by subst hI; exact hLF t (inS_filter ht)
   intro k ra a rb b e ra' a' h hx
   simp only [exec, eval_clean h hcl.1] at hx ⊢
   split at hx
   · rename_i g captured _
     rw [Option.bind_eq_some_iff] at hx
     obtain ⟨⟨v, a1⟩, h3, h4⟩ := hx
     have hn := h.sim.n
     -- a round
     have hround : ∀ j, FnS ((fun j => cond (Nat.beq j a.n) (aRound (exec cy ys fuel (.seq (.region false (I.map resetOp)) x')) (exec cy ys fuel y') ra ps a.n) (ys j)) j) ((fun j => cond (Nat.beq j b.n) (aRound (exec dy zs fuel x) (exec dy zs fuel y) rb ps b.n) (zs j)) j) := by
      intro j
      dsimp only
      rw [← hn]
      cases Nat.beq j a.n with
      | false => exact hy j
      | true =>
       rw [cond_true, cond_true]
       intro args s t v s' hst hr
       unfold aRound at hr ⊢
       split at hr
       · rename_i pe0 hg
         simp only [hst.get _ _ hg]
         cases hlen : Nat.beq args.length ps.length with
         | false => rw [hlen, cond_false] at hr; cases hr
         | true =>
          rw [hlen, cond_true, Option.bind_eq_some_iff] at hr
          rw [cond_true]
          obtain ⟨⟨e1, r1, s1⟩, q1, q2⟩ := hr
          obtain ⟨rr, z1, z2, z3⟩ := resets_run (c := ⟨cy ys, ys⟩) (l := I) (ρ := bindPs ra ps args) (σ := s)
          simp only [exec, z1, Option.map_some, Option.bind_some] at q1
          have hl0 : LR I F s.n rr s (bindPs rb ps args) t := by
           refine ⟨hst, Nat.le_refl _, fun u hu => ?_, fun u hu cc hcc => ?_, fun u w cc ee o hu _ _ hcc _ _ => ?_⟩
           · have : u ∉ I := fun hq => by rw [hIF u (inS_iff.2 hq)] at hu; cases hu
             rw [z3 u this]
             exact bindPs_same hcl.2 h.same u hu
           · rw [z2 u (inS_iff.1 hu)] at hcc; cases hcc
           · rw [z2 u (inS_iff.1 hu)] at hcc; cases hcc
          obtain ⟨rb1, t1, q3, q4, q5⟩ := code_sim hcy hy hIF h1 _ _ _ _ _ _ _ _ hl0 q1
          rw [q3, Option.bind_some]
          dsimp only at q2 ⊢
          split at q2
          · rename_i pe hg1
            simp only [q4.sim.get _ _ hg1]
            rw [Option.bind_eq_some_iff] at q2
            obtain ⟨⟨e2, r2, s2⟩, q6, q7⟩ := q2
            have hp1 := E2.put (k := s1.n) q4.sim hg1 (some (.loop .busy pe))
            obtain ⟨rb2, t2, q8, q9, q10⟩ := code_sim hcy hy hIF h2 _ _ _ _ _ _ _ _ (q4.step hp1) q6
            rw [q8, Option.bind_some]
            dsimp only at q7 ⊢
            have hp1' := E2.put (k := s.n) q4.sim hg1 (some (.loop .busy pe))
            split at q7
            · rename_i st0 pd0 hg2
              simp only [q9.sim.get _ _ hg2]
              cases e2 with
              | normal =>
               cases q7
               exact ⟨_, rfl, ((q5.trans hp1').trans q10).trans (E2.put q9.sim hg2 _)⟩
              | exit i =>
               cases q7
               exact ⟨_, rfl, ((q5.trans hp1').trans q10).trans (E2.put q9.sim hg2 _)⟩
              | ret =>
               cases q7
               exact ⟨_, rfl, ((q5.trans hp1').trans q10).trans (E2.put q9.sim hg2 _)⟩
            · cases q7
          · cases q2
       · cases hr
     have hpush := E2.push (k := a.n) h.sim (Nat.le_refl _) (.loop .ready none)
     obtain ⟨b1, h5, h6⟩ := hcy _ _ hround g _ _ (b.push (.loop .ready none)) _ _ hpush.sim h3
     rw [hn] at h5
     rw [h5, Option.bind_some]
     dsimp only at h4 ⊢
     have hall := hpush.trans (h6.less (by simp))
     obtain ⟨rfl, y, hg, rfl, haf⟩ := after_sim hall.sim h4 rb
     rw [← hn, haf]
     have he := hall.trans (E2.put hall.sim hg none)
     exact ⟨rb, _, rfl, h.step he, he.less h.kle⟩
   · cases hx
theorem minL_le : ∀ {l : List Nat} {n x : Nat}, x ∈ l → minL n l ≤ x
 | y :: l, n, x, h => by
  simp only [minL]
  rcases List.mem_cons.1 h with rfl | h
  · exact Nat.min_le_left _ _
  · exact Nat.le_trans (Nat.min_le_right _ _) (minL_le h)
theorem minL_n : ∀ {l : List Nat} {n : Nat}, minL n l ≤ n
 | [], n => Nat.le_refl _
 | y :: l, n => Nat.le_trans (Nat.min_le_right _ _) minL_n
theorem results_sim (h : LR L F k ra a rb b) : ∀ {rs rs' : List AR} {xs : List V}, rs.mapM (tRes L F) = some rs' → rs'.mapM (AR.get ra a) = some xs → rs.mapM (AR.get rb b) = some xs
 | [], rs', xs, h1, h2 => by
  simp only [List.mapM_nil, Option.pure_def, Option.some.injEq] at h1
  subst h1
  simpa using h2
 | r :: rs, rs', xs, h1, h2 => by
  simp only [List.mapM_cons, Option.bind_eq_bind, Option.bind_eq_some_iff, Option.pure_def, Option.some.injEq] at h1
  obtain ⟨r', h3, rs2, h4, rfl⟩ := h1
  simp only [List.mapM_cons, Option.bind_eq_bind, Option.bind_eq_some_iff, Option.pure_def, Option.some.injEq] at h2 ⊢
  obtain ⟨x, h5, xs2, h6, rfl⟩ := h2
  refine ⟨x, ?_, xs2, results_sim h h4 h6, rfl⟩
  cases r with
  | tmp t =>
   simp only [tRes] at h3
   cases ht : inS F t with
   | true => rw [ht, cond_true] at h3; cases h3
   | false =>
    rw [ht, cond_false] at h3
    cases h3
    simp only [AR.get, h.same t ht] at h5 ⊢
    exact h5
  | cell t n =>
   simp only [tRes] at h3
   cases hl : inS L t with
   | true =>
    rw [hl, cond_true] at h3
    cases h3
    simp only [AR.get] at h5 ⊢
    unfold aPartOf at h5
    split at h5
    · rename_i cs hcs
      obtain ⟨o, q1, q2, _⟩ := h.loc t hl cs hcs
      simp only [q1, aLoad, q2]
      exact h5
    · cases h5
   | false =>
    rw [hl, cond_false] at h3
    cases ht : inS F t with
    | true => rw [ht, cond_true] at h3; cases h3
    | false =>
     rw [ht, cond_false] at h3
     cases h3
     simp only [AR.get, h.same t ht] at h5 ⊢
     exact load_mono h.sim h5
  | part t n => cases h3
def TTable (tbl tb2 : FuncId → Option AF) : Prop := ∀ f g, tb2 f = some g → ∃ af L F, tbl f = some af ∧ tFunc L F af = some g
theorem call_sim {tbl tb2 : FuncId → Option AF} (ht : TTable tbl tb2) : ∀ n (ys zs : YlF), (∀ j, FnS (ys j) (zs j)) → ∀ f, FnS (callY tb2 n ys f) (callY tbl n zs f)
 | 0, ys, zs, hy, f => by
  intro args a b v a' _ hx
  cases hx
 | n + 1, ys, zs, hy, f => by
  intro args a b v a' hs hx
  simp only [callY, Option.bind_eq_some_iff] at hx
  obtain ⟨g, h1, hx⟩ := hx
  obtain ⟨af, L, F, h2, h3⟩ := ht f g h1
  unfold tFunc at h3
  cases hall : L.all (inS F) with
  | false => rw [hall, cond_false] at h3; cases h3
  | true =>
   rw [hall, cond_true] at h3
   simp only [Option.bind_eq_some_iff, Option.map_eq_some_iff] at h3
   obtain ⟨c', h4, rs, h5, rfl⟩ := h3
   have hLF : ∀ t, inS L t = true → inS F t = true := fun t ht => List.all_eq_true.1 hall t (inS_iff.1 ht)
   split at hx
   · rename_i hlen
     dsimp only at hlen hx
     rw [Option.bind_eq_some_iff] at hx
     obtain ⟨⟨e, r1, s1⟩, h6, h7⟩ := hx
     have h0 : LR L F a.n (initEnv args) a (initEnv args) b := by
      have hun : ∀ t, inS L t = true → initEnv args t = .undef := by
       intro t ht
       have h8 : minL af.ntmps L ≤ t := minL_le (inS_iff.1 ht)
       simp only [initEnv]
       rw [List.getElem?_eq_none (by omega)]
       rfl
      exact ⟨hs, Nat.le_refl _, fun _ _ => rfl, (fun t ht c hc => by rw [hun t ht] at hc; cases hc), (fun t u c e o ht _ _ hc _ _ => by rw [hun t ht] at hc; cases hc)⟩
     obtain ⟨rb1, b1, h8, h9, h10⟩ := code_sim (call_sim ht n) hy hLF h4 _ _ _ _ _ _ _ _ h0 h6
     have hle : args.length ≤ af.ntmps := Nat.le_trans hlen minL_n
     have fin : ∀ w, resultsOf r1 s1 rs = some w → resultsOf rb1 b1 af.results = some w := by
      intro w hw
      simp only [resultsOf, Option.map_eq_some_iff] at hw ⊢
      obtain ⟨xs, q1, q2⟩ := hw
      exact ⟨xs, results_sim h9 h5 q1, q2⟩
     cases e with
     | exit i => cases h7
     | normal =>
      simp only [Option.map_eq_some_iff] at h7
      obtain ⟨w, q1, q2⟩ := h7
      cases q2
      exact ⟨b1, by simp only [callY, h2, Option.bind_some, hle, if_true, h8, fin _ q1, Option.map_some], h10⟩
     | ret =>
      simp only [Option.map_eq_some_iff] at h7
      obtain ⟨w, q1, q2⟩ := h7
      cases q2
      exact ⟨b1, by simp only [callY, h2, Option.bind_some, hle, if_true, h8, fin _ q1, Option.map_some], h10⟩
   · cases hx
theorem call_turned {tbl tb2 : FuncId → Option AF} (ht : TTable tbl tb2) {n f : Nat} {args : List V} (h : good (callN tb2 n f args St.empty) = true) : good (callN tbl n f args St.empty) = true := by
 obtain ⟨σ, h1⟩ := good_ok h
 obtain ⟨σ', h2, _⟩ := call_sim ht n noYl noYl (fun j args a b v a' _ hx => by cases hx) f args St.empty St.empty _ _ ⟨rfl, fun _ _ h => h⟩ h1
 have h2 : callN tbl n f args St.empty = some (.sc (.bool true), σ') := h2
 rw [h2]
 rfl
theorem tall_cons {tbl : FuncId → Option AF} {l : List (Nat × AF)} {k : Nat} {g af : AF} {L F : List Nat} (h : tbl k = some af) (h2 : tFunc L F af = some g) (hs : ∀ p ∈ l, ∃ af L F, tbl p.1 = some af ∧ tFunc L F af = some p.2) : ∀ p ∈ (k, g) :: l, ∃ af L F, tbl p.1 = some af ∧ tFunc L F af = some p.2 := by
 intro p hp
 rcases List.mem_cons.1 hp with rfl | hp
 · exact ⟨af, L, F, h, h2⟩
 · exact hs p hp
theorem ttable_of {tbl : FuncId → Option AF} {l : List (Nat × AF)} (h : ∀ p ∈ l, ∃ af L F, tbl p.1 = some af ∧ tFunc L F af = some p.2) : TTable tbl (assoc l) := by
 intro f g
 induction l with
 | nil => intro hf; cases hf
 | cons x l ih =>
  obtain ⟨k, y⟩ := x
  intro hf
  simp only [assoc] at hf
  cases hk : Nat.beq f k with
  | true =>
   rw [hk, cond_true] at hf
   cases hf
   rw [Nat.eq_of_beq_eq_true hk]
   exact h (k, g) (by simp)
  | false =>
   rw [hk, cond_false] at hf
   exact ih (fun p hp => h p (List.mem_cons_of_mem _ hp)) hf
end
@[reducible] def AOper.o (d : Nat) (x : AOp) : AOper := ⟨some d, x, none, []⟩
@[reducible] def AOper.p (x : AOp) : AOper := ⟨none, x, none, []⟩
end Go.Ab
