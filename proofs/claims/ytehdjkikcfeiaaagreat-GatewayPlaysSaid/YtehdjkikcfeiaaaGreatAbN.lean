/- Local variables stand in registers: the turned code, and that what it comes to the code comes to. -/
import Derived.Test.YtehdjkikcfeiaaaGreatAbM
namespace Go.Ab
set_option linter.unusedVariables false
set_option linter.unusedSimpArgs false
section
def inS (l : List Nat) (t : Nat) : Bool := l.any (Nat.beq t)
theorem inS_iff {l : List Nat} {t : Nat} : inS l t = true ↔ t ∈ l := by
 unfold inS
 rw [List.any_eq_true]
 constructor
 · rintro ⟨x, h1, h2⟩; rw [Nat.eq_of_beq_eq_true h2]; exact h1
 · intro h; exact ⟨t, h, Nat.beq_refl t⟩
abbrev Gd := Option (Nat × Bool)
structure Ent where
 d : Nat
 r : Nat
 off : Nat
 g : Gd
def gdEq : Gd → Gd → Bool
 | none, none => true
 | some (t, b), some (u, c) => Nat.beq t u && (b == c)
 | _, _ => false
theorem gdEq_eq {g h : Gd} (e : gdEq g h = true) : g = h := by
 unfold gdEq at e
 split at e
 · rfl
 · simp only [Bool.and_eq_true] at e
   rw [Nat.eq_of_beq_eq_true e.1, eq_of_beq e.2]
 · cases e
theorem gdEq_refl (g : Gd) : gdEq g g = true := by
 cases g with
 | none => rfl
 | some p => obtain ⟨t, b⟩ := p; simp [gdEq]
def cleanO (F : List Nat) : AO → Bool
 | .t n => !inS F n
 | .c _ => true
def cleanG (F : List Nat) : Gd → Bool
 | none => true
 | some (t, _) => !inS F t
def cleanD (F : List Nat) : Option Nat → Bool
 | none => true
 | some d => !inS F d
def entOf : List Ent → Gd → Nat → Option (Nat × Nat)
 | [], _, _ => none
 | e :: m, g, t => cond (Nat.beq e.d t && (e.g.isNone || gdEq e.g g)) (some (e.r, e.off)) (entOf m g t)
def locOf (L : List Nat) (m : List Ent) (g : Gd) (t : Nat) : Option (Nat × Nat) := cond (inS L t) (some (t, 0)) (entOf m g t)
def entKeeps (d : Nat) (e : Ent) : Bool := !(Nat.beq e.d d) && (!(Nat.beq e.r d) && cleanG [d] e.g)
def entDrop (d : Option Nat) (m : List Ent) : List Ent := match d with
 | none => m
 | some d => m.filter (entKeeps d)
def usesNext (d : Nat) (g : Gd) : List AOper → Bool
 | o :: _ => (match o.op with
  | .load _ (.t a) => Nat.beq a d
  | .store _ (.t a) _ => Nat.beq a d
  | .place _ (.t a) => Nat.beq a d
  | _ => false) && gdEq g o.guard
 | [] => false
abbrev Obs := List (Nat × List Nat)
def genH (F : List Nat) (m : List Ent) (o : AOper) : Option (List AOper × List Ent × Obs) :=
 cond (o.op.tmps.all (fun t => !inS F t) && (cleanD F o.dst && cleanG F o.guard)) (some ([o], entDrop o.dst m, [])) none
def tHead (L F : List Nat) (m : List Ent) (o : AOper) (os : List AOper) : Option (List AOper × List Ent × Obs) :=
 match o.op with
 | .box x => match o.dst with
  | some d => cond (inS L d)
    (cond (cleanO F x && (cleanG F o.guard && o.see.isEmpty)) (some ([⟨some d, .xop .reg [x], o.guard, []⟩], entDrop (some d) m, [])) none)
    (genH F m o)
  | none => genH F m o
 | .place off (.t a) => match locOf L m o.guard a with
  | some (r, off0) => match o.dst with
   | some d => cond (inS F d && (!(inS L d) && (cleanG F o.guard && o.see.isEmpty)))
     (some (cond (usesNext d o.guard os) [] [⟨none, .part 0 (some 0) (.t r), o.guard, []⟩], ⟨d, r, off0 + off, o.guard⟩ :: entDrop (some d) m, [])) none
   | none => none
  | none => genH F m o
 | .load n (.t a) => match locOf L m o.guard a with
  | some (r, off) => cond (cleanD F o.dst && cleanG F o.guard) (some ([⟨o.dst, .part off n (.t r), o.guard, []⟩], entDrop o.dst m, [(r, o.see)])) none
  | none => genH F m o
 | .store n (.t a) x => match locOf L m o.guard a with
  | some (r, off) => cond (o.dst.isNone && (o.guard.isNone && (o.see.isEmpty && cleanO F x))) (some ([⟨some r, .xop (.rput off n) [.t r, x], none, []⟩], m, [])) none
  | none => genH F m o
 | _ => genH F m o
def tOps (L F : List Nat) : List Ent → List AOper → Option (List AOper × Obs)
 | _, [] => some ([], [])
 | m, o :: os => (tHead L F m o os).bind fun h => (tOps L F h.2.1 os).map fun r => (h.1 ++ r.1, h.2.2 ++ r.2)
def isEff (o : AOper) : Bool := match o.op.kind with | .effect => true | _ => false
def effN : List AOper → Nat
 | [] => 0
 | o :: os => cond (isEff o) (effN os + 1) (effN os)
def dstIs (r : Nat) (o : AOper) : Bool := match o.dst with | some d => Nat.beq d r | none => false
def obOk (os os' : List AOper) (p : Nat × List Nat) : Bool := p.2.isEmpty || (!(os'.any (dstIs p.1)) && p.2.all fun c => Nat.ble c (effN os))
def tRegion (L F : List Nat) (draw : Bool) (os : List AOper) : Option AC :=
 (tOps L F [] os).bind fun r => cond draw
   (cond (r.2.all (obOk os r.1)) (some (.region (r.1.any fun o => !o.see.isEmpty) r.1)) none)
   (some (.region false r.1))
def boxesOps (os : List AOper) : List Nat := os.filterMap fun o => match o.op with | .box _ => o.dst | _ => none
def boxes : AC → List Nat
 | .region _ os => boxesOps os
 | .seq a b | .cond _ a b | .rangeFn _ _ a b => boxes a ++ boxes b
 | .block _ b | .loop b => boxes b
 | _ => []
def resetOp (t : Nat) : AOper := ⟨some t, .mv (.c .undef), none, []⟩
def tCode (F : List Nat) : List Nat → AC → Option AC
 | _, .skip => some .skip
 | L, .region d os => tRegion L F d os
 | L, .seq a b => (tCode F L a).bind fun a' => (tCode F L b).map fun b' => .seq a' b'
 | L, .cond c a b => cond (cleanO F c) ((tCode F L a).bind fun a' => (tCode F L b).map fun b' => .cond c a' b') none
 | L, .block i b => (tCode F L b).map fun b' => .block i b'
 | L, .loop b => (tCode F L b).map fun b' => .loop b'
 | L, .rangeFn f ps a b => cond (cleanO F f && ps.all (fun t => !inS F t))
   ((tCode F (L.filter (inS (boxes a ++ boxes b))) a).bind fun a' => (tCode F (L.filter (inS (boxes a ++ boxes b))) b).map fun b' =>
     .rangeFn f ps (.seq (.region false ((L.filter (inS (boxes a ++ boxes b))).map resetOp)) a') b') none
 | _, .exit i => some (.exit i)
 | _, .ret => some .ret
def tRes (L F : List Nat) : AR → Option AR
 | .tmp t => cond (inS F t) none (some (.tmp t))
 | .cell t n => cond (inS L t) (some (.part t n)) (cond (inS F t) none (some (.cell t n)))
 | .part _ _ => none
def minL (n : Nat) : List Nat → Nat
 | [] => n
 | x :: xs => Nat.min x (minL n xs)
def tFunc (L F : List Nat) (f : AF) : Option AF :=
 cond (L.all (inS F)) ((tCode F L f.code).bind fun c => (f.results.mapM (tRes L F)).map fun rs => ⟨minL f.ntmps L, c, rs⟩) none
structure LR (L F : List Nat) (k : Nat) (ra : Env) (a : St) (rb : Env) (b : St) : Prop where
 sim : Sim a b
 kle : k ≤ a.n
 same : ∀ t, inS F t = false → ra t = rb t
 loc : ∀ t, inS L t = true → ∀ c, ra t = .agg c → ∃ o, rb t = .ptr o 0 ∧ b.get o = some (.cells c) ∧ a.get o = none ∧ o < a.n ∧ k ≤ o
 inj : ∀ t u c e o, inS L t = true → inS L u = true → t ≠ u → ra t = .agg c → ra u = .agg e → rb t = .ptr o 0 → rb u ≠ .ptr o 0
variable {L F : List Nat} {k : Nat} {ra ra' rb rb' : Env} {a b a' b' : St}
theorem LR.step (h : LR L F k ra a rb b) (e : E2 a.n a b a' b') : LR L F k ra a' rb b' := by
 refine ⟨e.sim, Nat.le_trans h.kle e.n, h.same, fun t ht c hc => ?_, h.inj⟩
 obtain ⟨o, h1, h2, h3, h4, h5⟩ := h.loc t ht c hc
 obtain ⟨h6, h7⟩ := e.rest o h4 h3
 exact ⟨o, h1, h7.trans h2, h6, Nat.lt_of_lt_of_le h4 e.n, h5⟩
theorem putE_ne {ρ : Env} {d : Option Nat} {v : V} {t : Nat} (h : d ≠ some t) : put ρ d v t = ρ t := by
 cases d with
 | none => rfl
 | some d => exact upd_other fun he => h (by rw [he])
theorem cleanD_ne {d : Option Nat} {t : Nat} (h : cleanD F d = true) (ht : inS F t = true) : d ≠ some t := by
 rintro rfl
 simp [cleanD, ht] at h
theorem LR.put (h : LR L F k ra a rb b) (hLF : ∀ t, inS L t = true → inS F t = true) {d : Option Nat} (hd : cleanD F d = true) (v : V) : LR L F k (Go.Ab.put ra d v) a (Go.Ab.put rb d v) b := by
 have hL : ∀ t, inS L t = true → Go.Ab.put ra d v t = ra t ∧ Go.Ab.put rb d v t = rb t := fun t ht => ⟨putE_ne (cleanD_ne hd (hLF t ht)), putE_ne (cleanD_ne hd (hLF t ht))⟩
 refine ⟨h.sim, h.kle, fun t ht => ?_, fun t ht c hc => ?_, fun t u c e o ht hu hne hc he => ?_⟩
 · cases d with
   | none => exact h.same t ht
   | some d =>
    by_cases he : t = d
    · subst he; simp only [Go.Ab.put, upd_self]
    · simp only [Go.Ab.put, upd_other he]; exact h.same t ht
 · rw [(hL t ht).1] at hc
   rw [(hL t ht).2]
   exact h.loc t ht c hc
 · rw [(hL t ht).1] at hc
   rw [(hL u hu).1] at he
   rw [(hL t ht).2, (hL u hu).2]
   exact h.inj t u c e o ht hu hne hc he
theorem eval_clean (h : LR L F k ra a rb b) {x : AO} (hx : cleanO F x = true) : x.eval ra = x.eval rb := by
 cases x with
 | t n => exact h.same n (by simpa [cleanO] using hx)
 | c v => rfl
theorem wanted_clean (h : LR L F k ra a rb b) {g : Gd} (hg : cleanG F g = true) : wanted ra g = wanted rb g := by
 cases g with
 | none => rfl
 | some p =>
  obtain ⟨t, c⟩ := p
  simp only [wanted]
  rw [h.same t (by simpa [cleanG] using hg)]
structure EntOK (L : List Nat) (m : List Ent) (ρ : Env) : Prop where
 root : ∀ e ∈ m, inS L e.r = true
 at_ : ∀ e ∈ m, wanted ρ e.g = true → ∀ o, ρ e.r = .ptr o 0 → ρ e.d = .ptr o e.off
theorem EntOK.drop {m : List Ent} {ρ : Env} (h : EntOK L m ρ) (d : Option Nat) (v : V) : EntOK L (entDrop d m) (Go.Ab.put ρ d v) := by
 cases d with
 | none => exact h
 | some d =>
  refine ⟨fun e he => h.root e (List.mem_filter.1 he).1, fun e he hw o ho => ?_⟩
  obtain ⟨h1, h2⟩ := List.mem_filter.1 he
  simp only [entKeeps, Bool.and_eq_true, Bool.not_eq_true'] at h2
  obtain ⟨h3, h4, h5⟩ := h2
  have n1 : e.d ≠ d := fun hq => by rw [hq, Nat.beq_refl] at h3; cases h3
  have n2 : e.r ≠ d := fun hq => by rw [hq, Nat.beq_refl] at h4; cases h4
  have hw' : wanted ρ e.g = true := by
   rw [← hw]
   cases hg : e.g with
   | none => rfl
   | some p =>
    obtain ⟨t, c⟩ := p
    rw [hg] at h5
    have n3 : t ≠ d := by
     rintro rfl
     simp [cleanG, inS] at h5
    simp only [wanted, Go.Ab.put, upd_other n3]
  simp only [Go.Ab.put, upd_other n1, upd_other n2] at ho ⊢
  exact h.at_ e h1 hw' o ho
theorem locOf_ok {m : List Ent} {ρ : Env} {g : Gd} {t r off : Nat} (h : EntOK L m ρ) (hl : locOf L m g t = some (r, off)) : inS L r = true ∧ (wanted ρ g = true → ∀ o, ρ r = .ptr o 0 → ρ t = .ptr o off) := by
 unfold locOf at hl
 cases ht : inS L t with
 | true =>
  rw [ht, cond_true] at hl
  cases hl
  exact ⟨ht, fun _ o ho => ho⟩
 | false =>
  rw [ht, cond_false] at hl
  clear ht
  induction m with
  | nil => cases hl
  | cons e m ih =>
   simp only [entOf] at hl
   cases hc : (Nat.beq e.d t && (e.g.isNone || gdEq e.g g)) with
   | true =>
    rw [hc, cond_true] at hl
    cases hl
    simp only [Bool.and_eq_true, Bool.or_eq_true] at hc
    obtain ⟨h1, h2⟩ := hc
    have h1 := Nat.eq_of_beq_eq_true h1
    subst h1
    refine ⟨h.root e List.mem_cons_self, fun hw o ho => h.at_ e List.mem_cons_self ?_ o ho⟩
    rcases h2 with h2 | h2
    · rw [Option.isNone_iff_eq_none.1 h2]; rfl
    · rw [gdEq_eq h2]; exact hw
   | false =>
    rw [hc, cond_false] at hl
    exact ih ⟨fun e he => h.root e (List.mem_cons_of_mem _ he), fun e he => h.at_ e (List.mem_cons_of_mem _ he)⟩ hl
def One (c : CallF) (o : AOper) (ρ : Env) (σ : St) (v : V) (σ1 : St) (ran : Bool) : Prop :=
 (wanted ρ o.guard = true ∧ o.op.run c ρ σ = some (v, σ1) ∧ ran = true) ∨ (wanted ρ o.guard = false ∧ v = .undef ∧ σ1 = σ ∧ ran = false)
def effL (o : AOper) (σ : St) (ss : List St) : List St := cond (isEff o) (σ :: ss) ss
theorem effL_eq (o : AOper) (σ : St) (ss : List St) : (if o.op.kind = .effect then σ :: ss else ss) = effL o σ ss := by
 unfold effL isEff
 cases o.op.kind <;> rfl
theorem trace_mk {c : CallF} {o : AOper} {os : List AOper} {ρ : Env} {σ σ1 : St} {v : V} {ran : Bool} {l : List Step} {ss : List St} {r : Env × St} (h : One c o ρ σ v σ1 ran)
  (ht : traceOps c os (Go.Ab.put ρ o.dst v) σ1 = some (l, ss, r)) : traceOps c (o :: os) ρ σ = some (⟨o, ρ, v, ran⟩ :: l, effL o σ ss, r) := by
 rcases h with ⟨h1, h2, rfl⟩ | ⟨h1, rfl, rfl, rfl⟩
 · simp only [traceOps, h1, cond_true, h2, Option.bind_some, ht, Option.map_some, effL_eq]
 · simp only [traceOps, h1, cond_false, ht, Option.map_some, effL_eq]
theorem trace_inv {c : CallF} {o : AOper} {os : List AOper} {ρ : Env} {σ : St} {l0 : List Step} {ss0 : List St} {r : Env × St} (h : traceOps c (o :: os) ρ σ = some (l0, ss0, r)) :
  ∃ v σ1 ran l ss, One c o ρ σ v σ1 ran ∧ traceOps c os (Go.Ab.put ρ o.dst v) σ1 = some (l, ss, r) ∧ l0 = ⟨o, ρ, v, ran⟩ :: l ∧ ss0 = effL o σ ss := by
 simp only [traceOps] at h
 cases hw : wanted ρ o.guard with
 | true =>
  rw [hw, cond_true, Option.bind_eq_some_iff] at h
  obtain ⟨⟨v, σ1⟩, h1, h2⟩ := h
  rw [Option.map_eq_some_iff] at h2
  obtain ⟨⟨l, ss, r'⟩, h3, h4⟩ := h2
  cases h4
  exact ⟨v, σ1, true, l, ss, .inl ⟨hw, h1, rfl⟩, h3, rfl, effL_eq _ _ _⟩
 | false =>
  rw [hw, cond_false, Option.map_eq_some_iff] at h
  obtain ⟨⟨l, ss, r'⟩, h3, h4⟩ := h
  cases h4
  exact ⟨.undef, σ, false, l, ss, .inr ⟨hw, rfl, rfl, rfl⟩, h3, rfl, effL_eq _ _ _⟩
theorem run_trace {c : CallF} : ∀ {os : List AOper} {ρ : Env} {σ : St}, runOps c os ρ σ = (traceOps c os ρ σ).map (·.2.2)
 | [], ρ, σ => rfl
 | o :: os, ρ, σ => by
  simp only [runOps, traceOps]
  cases wanted ρ o.guard with
  | true =>
   simp only [cond_true]
   cases o.op.run c ρ σ with
   | none => rfl
   | some x =>
    obtain ⟨v, σ1⟩ := x
    simp only [Option.bind_some, run_trace (os := os), Option.map_map]
    rfl
  | false =>
   simp only [cond_false, run_trace (os := os), Option.map_map]
   rfl
end
end Go.Ab
