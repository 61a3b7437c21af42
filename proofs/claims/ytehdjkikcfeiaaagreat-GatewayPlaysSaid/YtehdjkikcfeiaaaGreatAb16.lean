/- A region that draws its order: what the operations look at; what was gone through. -/
import Derived.Test.YtehdjkikcfeiaaaGreatAb15
import Derived.OrdersIn
namespace Go.Ab
open Go.RowKit
section
theorem eval_congr {ρ ρ' : Env} {x : AO} (h : ∀ t ∈ x.tmps, ρ t = ρ' t) : x.eval ρ = x.eval ρ' := by
 cases x with
 | t n => exact h n (by simp [AO.tmps])
 | c v => rfl
theorem map_congr {ρ ρ' : Env} {xs : List AO} (h : ∀ t ∈ xs.flatMap AO.tmps, ρ t = ρ' t) : xs.map (AO.eval ρ) = xs.map (AO.eval ρ') :=
 List.map_congr_left fun x hx => eval_congr fun t ht => h t (List.mem_flatMap.2 ⟨x, hx, ht⟩)
theorem parts_congr {ρ ρ' : Env} {ps : List (Nat × Nat × AO)} (h : ∀ t ∈ ps.flatMap (fun p => p.2.2.tmps), ρ t = ρ' t) :
  (ps.map fun p => (p.1, p.2.1, p.2.2.eval ρ)) = (ps.map fun p => (p.1, p.2.1, p.2.2.eval ρ')) :=
 List.map_congr_left fun x hx => by rw [eval_congr fun t ht => h t (List.mem_flatMap.2 ⟨x, hx, ht⟩)]
theorem opt_congr {ρ ρ' : Env} {x : Option AO} (h : ∀ t ∈ (x.map AO.tmps).getD [], ρ t = ρ' t) : x.map (AO.eval ρ) = x.map (AO.eval ρ') := by
 cases x with
 | none => rfl
 | some x => simp only [Option.map_some]; rw [eval_congr h]
theorem aop_congr {call : CallF} {ρ ρ' : Env} {σ : St} {o : AOp} (h : ∀ t ∈ o.tmps, ρ t = ρ' t) : o.run call ρ σ = o.run call ρ' σ := by
 cases o with
 | pick c x y =>
  simp only [AOp.tmps, List.mem_append] at h
  simp only [AOp.run]
  rw [eval_congr (x := c) fun t ht => h t (.inl (.inl ht)), eval_congr (x := x) fun t ht => h t (.inl (.inr ht)), eval_congr (x := y) fun t ht => h t (.inr ht)]
 | build z ps => simp only [AOp.tmps] at h; simp only [AOp.run]; rw [parts_congr h]
 | bslice sz n z ps => simp only [AOp.tmps] at h; simp only [AOp.run]; rw [parts_congr h]
 | mkfn f cs => simp only [AOp.tmps] at h; simp only [AOp.run]; rw [map_congr h]
 | call f xs => simp only [AOp.tmps] at h; simp only [AOp.run]; rw [map_congr h]
 | callv f xs =>
  simp only [AOp.tmps, List.mem_append] at h; simp only [AOp.run]
  rw [map_congr fun t ht => h t (.inr ht), eval_congr (x := f) fun t ht => h t (.inl ht)]
 | minmax m x xs =>
  simp only [AOp.tmps, List.mem_append] at h; simp only [AOp.run]
  rw [map_congr fun t ht => h t (.inr ht), eval_congr (x := x) fun t ht => h t (.inl ht)]
 | slice sz x l hh m =>
  simp only [AOp.tmps, List.mem_append] at h; simp only [AOp.run]
  rw [eval_congr (x := x) fun t ht => h t (.inl (.inl (.inl ht))), opt_congr (x := l) fun t ht => h t (.inl (.inl (.inr ht))), opt_congr (x := hh) fun t ht => h t (.inl (.inr ht)), opt_congr (x := m) fun t ht => h t (.inr ht)]
 | sliceStr x l hh =>
  simp only [AOp.tmps, List.mem_append] at h; simp only [AOp.run]
  rw [eval_congr (x := x) fun t ht => h t (.inl (.inl ht)), opt_congr (x := l) fun t ht => h t (.inl (.inr ht)), opt_congr (x := hh) fun t ht => h t (.inr ht)]
 | xop e xs => simp only [AOp.tmps] at h; simp only [AOp.run]; rw [map_congr h]
 | mv x => simp only [AOp.tmps] at h; simp only [AOp.run]; rw [eval_congr h]
 | box x => simp only [AOp.tmps] at h; simp only [AOp.run]; rw [eval_congr h]
 | load n x => simp only [AOp.tmps] at h; simp only [AOp.run]; rw [eval_congr h]
 | nilCheck x => simp only [AOp.tmps] at h; simp only [AOp.run]; rw [eval_congr h]
 | un op x => simp only [AOp.tmps] at h; simp only [AOp.run]; rw [eval_congr h]
 | conv k x => simp only [AOp.tmps] at h; simp only [AOp.run]; rw [eval_congr h]
 | same x => simp only [AOp.tmps] at h; simp only [AOp.run]; rw [eval_congr h]
 | b2s x => simp only [AOp.tmps] at h; simp only [AOp.run]; rw [eval_congr h]
 | s2b x => simp only [AOp.tmps] at h; simp only [AOp.run]; rw [eval_congr h]
 | place n x => simp only [AOp.tmps] at h; simp only [AOp.run]; rw [eval_congr h]
 | part n m x => simp only [AOp.tmps] at h; simp only [AOp.run]; rw [eval_congr h]
 | len x => simp only [AOp.tmps] at h; simp only [AOp.run]; rw [eval_congr h]
 | lenStr x => simp only [AOp.tmps] at h; simp only [AOp.run]; rw [eval_congr h]
 | extract x i => simp only [AOp.tmps] at h; simp only [AOp.run]; rw [eval_congr h]
 | store n x y => simp only [AOp.tmps, List.mem_append] at h; simp only [AOp.run]; rw [eval_congr (x := x) fun t ht => h t (.inl ht), eval_congr (x := y) fun t ht => h t (.inr ht)]
 | bin op x y => simp only [AOp.tmps, List.mem_append] at h; simp only [AOp.run]; rw [eval_congr (x := x) fun t ht => h t (.inl ht), eval_congr (x := y) fun t ht => h t (.inr ht)]
 | eq n q x y => simp only [AOp.tmps, List.mem_append] at h; simp only [AOp.run]; rw [eval_congr (x := x) fun t ht => h t (.inl ht), eval_congr (x := y) fun t ht => h t (.inr ht)]
 | arrAddr n m x y => simp only [AOp.tmps, List.mem_append] at h; simp only [AOp.run]; rw [eval_congr (x := x) fun t ht => h t (.inl ht), eval_congr (x := y) fun t ht => h t (.inr ht)]
 | slAddr n x y => simp only [AOp.tmps, List.mem_append] at h; simp only [AOp.run]; rw [eval_congr (x := x) fun t ht => h t (.inl ht), eval_congr (x := y) fun t ht => h t (.inr ht)]
 | arrIdx n m k x y => simp only [AOp.tmps, List.mem_append] at h; simp only [AOp.run]; rw [eval_congr (x := x) fun t ht => h t (.inl ht), eval_congr (x := y) fun t ht => h t (.inr ht)]
 | strIdx x y => simp only [AOp.tmps, List.mem_append] at h; simp only [AOp.run]; rw [eval_congr (x := x) fun t ht => h t (.inl ht), eval_congr (x := y) fun t ht => h t (.inr ht)]
 | append a b c x y => simp only [AOp.tmps, List.mem_append] at h; simp only [AOp.run]; rw [eval_congr (x := x) fun t ht => h t (.inl ht), eval_congr (x := y) fun t ht => h t (.inr ht)]
theorem still {call : CallF} {ρ : Env} {σ σ' : St} {o : AOp} {v : V} (hk : o.kind ≠ .effect) (h : o.run call ρ σ = some (v, σ')) : σ' = σ := by
 by_cases hx : ∃ e xs, o = .xop e xs
 · obtain ⟨e, xs, rfl⟩ := hx
   exact XOp.still hk h
 cases o <;> simp only [AOp.kind] at hk <;> first | exact absurd rfl hk | exact absurd ⟨_, _, rfl⟩ hx | skip
 all_goals simp only [AOp.run] at h
 all_goals first
  | (simp only [Option.some.injEq, Prod.mk.injEq] at h; exact h.2.symm)
  | (simp only [Option.map_eq_some_iff] at h; obtain ⟨_, _, h⟩ := h; cases h; rfl)
  | (split at h <;> first | (cases h; rfl) | cases h | (simp only [Option.map_eq_some_iff] at h; obtain ⟨_, _, h⟩ := h; cases h; rfl))
theorem pure_any {call : CallF} {ρ : Env} {σ σ' : St} {o : AOp} {v : V} (hk : o.kind = .pure) (h : o.run call ρ σ = some (v, σ')) (σ2 : St) : o.run call ρ σ2 = some (v, σ2) := by
 by_cases hx : ∃ e xs, o = .xop e xs
 · obtain ⟨e, xs, rfl⟩ := hx
   exact absurd hk (XOp.kind_ne e)
 cases o <;> simp only [AOp.kind, reduceCtorEq] at hk <;> first | exact absurd ⟨_, _, rfl⟩ hx | skip
 all_goals simp only [AOp.run] at h ⊢
 all_goals first
  | (simp only [Option.some.injEq, Prod.mk.injEq] at h ⊢; exact ⟨h.1, trivial⟩)
  | (simp only [Option.map_eq_some_iff] at h ⊢; obtain ⟨u, h1, h⟩ := h; cases h; exact ⟨_, h1, rfl⟩)
  | (split at h <;> first | (cases h; rfl) | cases h | (rename_i hh; simp only [Option.map_eq_some_iff] at h; obtain ⟨u, h1, h⟩ := h; cases h; simp [hh, h1]))
def effB (l : List AOper) (i : Nat) : Nat := ((l.take i).filter fun o => decide (o.op.kind = .effect)).length
structure TraceOk (call : CallF) (l : List AOper) (ρ : Env) (σ : St) (steps : List Step) (ss : List St) (ρ' : Env) (σ' : St) : Prop where
 len : steps.length = l.length
 op : ∀ (i : Nat) (s : Step), steps[i]? = some s → l[i]? = some s.o
 first : ss[0]? = some σ
 last : ss[effB l l.length]? = some σ'
 at_ : ∀ (i : Nat) (s : Step), steps[i]? = some s → s.ran = wanted s.ρ s.o.guard ∧ ∃ s0, ss[effB l i]? = some s0 ∧
  (s.ran = true → ∃ s1, s.o.op.run call s.ρ s0 = some (s.v, s1) ∧ ss[effB l (i + 1)]? = some s1) ∧ (s.ran = false → s.v = .undef ∧ ss[effB l (i + 1)]? = some s0)
 env : ∀ (i : Nat) (s : Step), steps[i]? = some s → ∀ t, (∀ (j : Nat) (o : AOper), j < i → l[j]? = some o → o.dst ≠ some t) → s.ρ t = ρ t
 envv : ∀ (i : Nat) (s : Step), steps[i]? = some s → ∀ t (j : Nat) (u : Step), j < i → steps[j]? = some u → u.o.dst = some t → (∀ (k : Nat) (o : AOper), j < k → k < i → l[k]? = some o → o.dst ≠ some t) → s.ρ t = u.v
 end_ : ∀ t, (∀ (j : Nat) (o : AOper), l[j]? = some o → o.dst ≠ some t) → ρ' t = ρ t
 endv : ∀ t (j : Nat) (u : Step), steps[j]? = some u → u.o.dst = some t → (∀ (k : Nat) (o : AOper), j < k → l[k]? = some o → o.dst ≠ some t) → ρ' t = u.v
theorem effB_zero (l : List AOper) : effB l 0 = 0 := rfl
theorem effB_cons (o : AOper) (l : List AOper) (i : Nat) : effB (o :: l) (i + 1) = (if o.op.kind = .effect then 1 else 0) + effB l i := by
 unfold effB
 simp only [List.take_succ_cons, List.filter_cons]
 by_cases h : o.op.kind = .effect
 · simp [h]; omega
 · simp [h]
theorem put_ne {ρ : Env} {d : Option Nat} {v : V} {t : Nat} (h : d ≠ some t) : put ρ d v t = ρ t := by
 cases d with
 | none => rfl
 | some d =>
  have hne : t ≠ d := fun e => h (by rw [e])
  have : Nat.beq t d = false := by
   cases hb : Nat.beq t d
   · rfl
   · exact absurd (Nat.eq_of_beq_eq_true hb) hne
  simp [put, upd, this]
theorem put_eq {ρ : Env} {v : V} {t : Nat} : put ρ (some t) v t = v := by
 simp [put, upd, Nat.beq_refl]
theorem trace_ok {call : CallF} : ∀ {l : List AOper} {ρ : Env} {σ : St} {steps : List Step} {ss : List St} {ρ' : Env} {σ' : St}, traceOps call l ρ σ = some (steps, ss, ρ', σ') → TraceOk call l ρ σ steps ss ρ' σ'
 | [], ρ, σ, steps, ss, ρ', σ', h => by
  simp only [traceOps, Option.some.injEq, Prod.mk.injEq] at h
  obtain ⟨rfl, rfl, rfl, rfl⟩ := h
  exact ⟨rfl, fun i s h => by simp at h, rfl, rfl, fun i s h => by simp at h, fun i s h => by simp at h, fun i s h => by simp at h, fun _ _ => rfl, fun t j u h => by simp at h⟩
 | o :: l, ρ, σ, steps, ss, ρ', σ', h => by
  simp only [traceOps] at h
  -- both ways alike: a value, a state, and the rest
  have key : ∀ (ran : Bool) (v : V) (σ1 : St) (steps1 : List Step) (ss1 : List St), ran = wanted ρ o.guard → (ran = true → o.op.run call ρ σ = some (v, σ1)) → (ran = false → v = .undef ∧ σ1 = σ) →
    traceOps call l (put ρ o.dst v) σ1 = some (steps1, ss1, ρ', σ') → steps = ⟨o, ρ, v, ran⟩ :: steps1 → ss = (if o.op.kind = .effect then σ :: ss1 else ss1) → TraceOk call (o :: l) ρ σ steps ss ρ' σ' := by
   intro ran v σ1 steps1 ss1 hran hr1 hr2 htr hst hss
   have ih := trace_ok htr
   subst hst
   have hstill : o.op.kind ≠ .effect → σ1 = σ := by
    intro hk
    cases hb : ran with
    | true => exact still hk (hr1 hb)
    | false => exact (hr2 hb).2
   have sget : ∀ c s, ss1[c]? = some s → ss[(if o.op.kind = .effect then 1 else 0) + c]? = some s := by
    intro c s hc
    subst hss
    by_cases hk : o.op.kind = .effect
    · simp only [hk, if_true]; rw [Nat.add_comm]; simpa using hc
    · simp only [hk, if_false, Nat.zero_add]; exact hc
   have s0 : ss[0]? = some σ := by
    by_cases hk : o.op.kind = .effect
    · subst hss; simp [hk]
    · have := ih.first
      rw [hstill hk] at this
      subst hss; simpa [hk] using this
   refine ⟨by simp [ih.len], ?_, s0, ?_, ?_, ?_, ?_, ?_, ?_⟩
   · intro i s hi
     cases i with
     | zero => simp at hi; subst hi; rfl
     | succ i => simpa using ih.op i s (by simpa using hi)
   · rw [List.length_cons, effB_cons]; exact sget _ _ ih.last
   · intro i s hi
     cases i with
     | zero =>
      simp at hi; subst hi
      refine ⟨hran, σ, s0, ?_, ?_⟩
      · intro hb
        exact ⟨σ1, hr1 hb, by rw [effB_cons]; exact sget _ _ ih.first⟩
      · intro hb
        obtain ⟨hv, hs1⟩ := hr2 hb
        refine ⟨hv, ?_⟩
        rw [effB_cons, ← hs1]; exact sget _ _ ih.first
     | succ i =>
      obtain ⟨k1, q, k2, k3, k4⟩ := ih.at_ i s (by simpa using hi)
      refine ⟨k1, q, by rw [effB_cons]; exact sget _ _ k2, ?_, ?_⟩
      · intro hb
        obtain ⟨s1, l1, l2⟩ := k3 hb
        exact ⟨s1, l1, by rw [effB_cons]; exact sget _ _ l2⟩
      · intro hb
        obtain ⟨l1, l2⟩ := k4 hb
        exact ⟨l1, by rw [effB_cons]; exact sget _ _ l2⟩
   · intro i s hi t hno
     cases i with
     | zero => simp at hi; subst hi; rfl
     | succ i =>
      rw [ih.env i s (by simpa using hi) t fun j q hj hq => hno (j + 1) q (by omega) (by simpa using hq)]
      exact put_ne (hno 0 o (by omega) rfl)
   · intro i s hi t j u hj hu hd hno
     cases i with
     | zero => omega
     | succ i =>
      cases j with
      | zero =>
       simp at hu; subst hu
       rw [ih.env i s (by simpa using hi) t fun j q hj hq => hno (j + 1) q (by omega) (by omega) (by simpa using hq)]
       simp only at hd; rw [hd]; exact put_eq
      | succ j =>
       exact ih.envv i s (by simpa using hi) t j u (by omega) (by simpa using hu) hd fun k q hk1 hk2 hq => hno (k + 1) q (by omega) (by omega) (by simpa using hq)
   · intro t hno
     rw [ih.end_ t fun j q hq => hno (j + 1) q (by simpa using hq)]
     exact put_ne (hno 0 o rfl)
   · intro t j u hu hd hno
     cases j with
     | zero =>
      simp at hu; subst hu
      rw [ih.end_ t fun j q hq => hno (j + 1) q (by omega) (by simpa using hq)]
      simp only at hd; rw [hd]; exact put_eq
     | succ j => exact ih.endv t j u (by simpa using hu) hd fun k q hk hq => hno (k + 1) q (by omega) (by simpa using hq)
  cases hw : wanted ρ o.guard with
  | true =>
   rw [hw, cond_true] at h
   simp only [Option.bind_eq_some_iff, Option.map_eq_some_iff] at h
   obtain ⟨⟨v, σ1⟩, h1, ⟨l1, ss1, r1, r2⟩, h2, h3⟩ := h
   cases h3
   exact key true v σ1 l1 ss1 hw.symm (fun _ => h1) (fun hh => by cases hh) h2 rfl rfl
  | false =>
   rw [hw, cond_false] at h
   simp only [Option.map_eq_some_iff] at h
   obtain ⟨⟨l1, ss1, r1, r2⟩, h2, h3⟩ := h
   cases h3
   exact key false .undef σ l1 ss1 hw.symm (fun hh => by cases hh) (fun _ => ⟨rfl, rfl⟩) h2 rfl rfl
end
end Go.Ab
