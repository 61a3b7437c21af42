/-
  A run in parts, each by the kernel.
-/
import Derived.Test.YthofgjcnnklibaaAbW
namespace Go.Ab

section

def operB (N : Nat) (o : AOper) : Bool := match o.dst with | some d => Nat.blt d N | none => true
def codeB (N : Nat) : AC → Bool
  | .skip | .exit _ | .ret => true
  | .region _ ops => ops.all (operB N)
  | .seq a b => codeB N a && codeB N b
  | .cond _ a b => codeB N a && codeB N b
  | .block _ b => codeB N b
  | .loop b => codeB N b
  | .rangeFn .. => true

theorem put_out {N : Nat} {o : AOper} (h : operB N o = true) {ρ : Env} {v : V} {t : Nat} (ht : N ≤ t) : put ρ o.dst v t = ρ t := by
  unfold operB at h
  cases hd : o.dst with
  | none => rfl
  | some d =>
    rw [hd] at h
    have hl : d + 1 ≤ N := by simpa [Nat.blt] using h
    exact upd_other (by omega)

theorem ops_out {N : Nat} {call : CallF} : ∀ {os : List AOper} {ρ ρ' : Env} {σ σ' : St}, os.all (operB N) = true → runOps call os ρ σ = some (ρ', σ') → ∀ t, N ≤ t → ρ' t = ρ t
  | [], ρ, ρ', σ, σ', _, h, t, ht => by
    simp only [runOps, Option.some.injEq, Prod.mk.injEq] at h
    rw [h.1]
  | o :: os, ρ, ρ', σ, σ', hb, h, t, ht => by
    simp only [List.all_cons, Bool.and_eq_true] at hb
    simp only [runOps] at h
    cases hw : wanted ρ o.guard with
    | true =>
      rw [hw, cond_true, Option.bind_eq_some_iff] at h
      obtain ⟨⟨v, σ1⟩, _, h⟩ := h
      rw [ops_out hb.2 h t ht, put_out hb.1 ht]
    | false =>
      rw [hw, cond_false] at h
      rw [ops_out hb.2 h t ht, put_out hb.1 ht]

theorem trace_out {N : Nat} {call : CallF} : ∀ {os : List AOper} {ρ ρ' : Env} {σ σ' : St} {l : List Step} {ss : List St}, os.all (operB N) = true → traceOps call os ρ σ = some (l, ss, ρ', σ') → ∀ t, N ≤ t → ρ' t = ρ t
  | [], ρ, ρ', σ, σ', l, ss, _, h, t, ht => by
    simp only [traceOps, Option.some.injEq, Prod.mk.injEq] at h
    rw [h.2.2.1]
  | o :: os, ρ, ρ', σ, σ', l, ss, hb, h, t, ht => by
    simp only [List.all_cons, Bool.and_eq_true] at hb
    simp only [traceOps] at h
    cases hw : wanted ρ o.guard with
    | true =>
      rw [hw, cond_true, Option.bind_eq_some_iff] at h
      obtain ⟨⟨v, σ1⟩, _, h⟩ := h
      rw [Option.map_eq_some_iff] at h
      obtain ⟨⟨l1, ss1, r1⟩, h1, h2⟩ := h
      simp only [Prod.mk.injEq] at h2
      obtain ⟨_, _, rfl⟩ := h2
      rw [trace_out hb.2 h1 t ht, put_out hb.1 ht]
    | false =>
      rw [hw, cond_false, Option.map_eq_some_iff] at h
      obtain ⟨⟨l1, ss1, r1⟩, h1, h2⟩ := h
      simp only [Prod.mk.injEq] at h2
      obtain ⟨_, _, rfl⟩ := h2
      rw [trace_out hb.2 h1 t ht, put_out hb.1 ht]

theorem iter_out {N : Nat} {body : Env → St → Option (Ex × Env × St)} (hb : ∀ {ρ ρ' : Env} {σ σ' : St} {e : Ex}, body ρ σ = some (e, ρ', σ') → ∀ t, N ≤ t → ρ' t = ρ t) : ∀ {n : Nat} {ρ ρ' : Env} {σ σ' : St} {e : Ex}, iter body n ρ σ = some (e, ρ', σ') → ∀ t, N ≤ t → ρ' t = ρ t
  | 0, ρ, ρ', σ, σ', e, h, t, ht => by cases h
  | n + 1, ρ, ρ', σ, σ', e, h, t, ht => by
    simp only [iter, Option.bind_eq_some_iff] at h
    obtain ⟨⟨e1, ρ1, σ1⟩, h1, h2⟩ := h
    have h3 := hb h1 t ht
    cases e1 with
    | normal => exact (iter_out hb h2 t ht).trans h3
    | exit i => simp only [Option.some.injEq, Prod.mk.injEq] at h2; rw [← h2.2.1, h3]
    | ret => simp only [Option.some.injEq, Prod.mk.injEq] at h2; rw [← h2.2.1, h3]

theorem exec_out {N : Nat} {cy : YlF → FnF} {ys : YlF} {n : Nat} : ∀ (c : AC) {ρ ρ' : Env} {σ σ' : St} {e : Ex}, codeB N c = true → exec cy ys n c ρ σ = some (e, ρ', σ') → ∀ t, N ≤ t → ρ' t = ρ t := by
  intro c
  induction c with
  | skip => intro ρ ρ' σ σ' e _ h t ht; simp only [exec, Option.some.injEq, Prod.mk.injEq] at h; rw [h.2.1]
  | exit i => intro ρ ρ' σ σ' e _ h t ht; simp only [exec, Option.some.injEq, Prod.mk.injEq] at h; rw [h.2.1]
  | ret => intro ρ ρ' σ σ' e _ h t ht; simp only [exec, Option.some.injEq, Prod.mk.injEq] at h; rw [h.2.1]
  | region d ops =>
    intro ρ ρ' σ σ' e hb h t ht
    cases d with
    | false =>
      simp only [exec, Option.map_eq_some_iff] at h
      obtain ⟨⟨ρ1, σ1⟩, h1, h2⟩ := h
      simp only [Prod.mk.injEq] at h2
      rw [← h2.2.1]; exact ops_out hb h1 t ht
    | true =>
      simp only [exec, Option.map_eq_some_iff] at h
      obtain ⟨⟨ρ1, σ1⟩, h1, h2⟩ := h
      simp only [Prod.mk.injEq] at h2
      rw [← h2.2.1]
      simp only [runDraw, Option.bind_eq_some_iff] at h1
      obtain ⟨⟨l, ss, r⟩, h1, h3⟩ := h1
      simp only at h3
      split at h3
      · cases h3; exact trace_out hb h1 t ht
      · cases h3
  | seq a b iha ihb =>
    intro ρ ρ' σ σ' e hb h t ht
    simp only [codeB, Bool.and_eq_true] at hb
    simp only [exec, Option.bind_eq_some_iff] at h
    obtain ⟨⟨e1, ρ1, σ1⟩, h1, h2⟩ := h
    have h3 := iha hb.1 h1 t ht
    cases e1 with
    | normal => exact (ihb hb.2 h2 t ht).trans h3
    | exit i => simp only [Option.some.injEq, Prod.mk.injEq] at h2; rw [← h2.2.1, h3]
    | ret => simp only [Option.some.injEq, Prod.mk.injEq] at h2; rw [← h2.2.1, h3]
  | cond c a b iha ihb =>
    intro ρ ρ' σ σ' e hb h t ht
    simp only [codeB, Bool.and_eq_true] at hb
    simp only [exec] at h
    split at h
    · rename_i q _
      cases q with
      | true => exact iha hb.1 h t ht
      | false => exact ihb hb.2 h t ht
    · cases h
  | block i b ih =>
    intro ρ ρ' σ σ' e hb h t ht
    simp only [exec, Option.map_eq_some_iff] at h
    obtain ⟨⟨e1, ρ1, σ1⟩, h1, h2⟩ := h
    have h3 := ih hb h1 t ht
    cases e1 <;> (simp only [Prod.mk.injEq] at h2; rw [← h2.2.1, h3])
  | loop b ih =>
    intro ρ ρ' σ σ' e hb h t ht
    simp only [exec] at h
    exact iter_out (fun h' t ht => ih hb h' t ht) h t ht
  | rangeFn f ps a b _ _ =>
    intro ρ ρ' σ σ' e _ h t ht
    simp only [exec] at h
    split at h
    · rw [Option.bind_eq_some_iff] at h
      obtain ⟨⟨v, σ1⟩, _, h⟩ := h
      unfold aAfter at h
      split at h <;> first | (cases h; done) | (simp only [Option.some.injEq, Prod.mk.injEq] at h; rw [h.2.1])
    · cases h

def pk (N : Nat) (x : Option (Ex × Env × St)) : Option (Ex × List V × St) := x.map fun r => (r.1, (List.range N).map r.2.1, r.2.2)

theorem pk_ok {N : Nat} {cy : YlF → FnF} {ys : YlF} {n : Nat} {c : AC} {es es' : List V} {σ σ' : St} {e : Ex} (hb : codeB N c = true) (hl : es.length ≤ N) (h : pk N (exec cy ys n c (initEnv es) σ) = some (e, es', σ')) :
    exec cy ys n c (initEnv es) σ = some (e, initEnv es', σ') := by
  unfold pk at h
  rw [Option.map_eq_some_iff] at h
  obtain ⟨⟨e1, ρ1, σ1⟩, h1, h2⟩ := h
  simp only [Prod.mk.injEq] at h2
  obtain ⟨rfl, he, rfl⟩ := h2
  rw [h1]
  have : ρ1 = initEnv es' := by
    funext t
    unfold initEnv
    rw [← he]
    rcases Nat.lt_or_ge t N with ht | ht
    · simp [ht]
    · rw [exec_out c hb h1 t ht]
      have e1 : es[t]? = none := List.getElem?_eq_none (by omega)
      simp [initEnv, e1, ht]
  rw [this]

/-- One part, and on. -/
theorem part {N : Nat} {cy : YlF → FnF} {ys : YlF} {n k : Nat} {c : AC} {es es' : List V} {σ σ' : St} (hb : codeB N (takeC k c) = true) (hl : es.length ≤ N) (h : pk N (exec cy ys n (takeC k c) (initEnv es) σ) = some (.normal, es', σ')) :
    exec cy ys n c (initEnv es) σ = exec cy ys n (dropC k c) (initEnv es') σ' := by
  rw [exec_split k c, pk_ok hb hl h, s_seqn]

end
end Go.Ab
