/- What the check of a region tells. -/
import Derived.Test.YtehdjkikcfeiaaaGreatAbD
import Derived.Test.YtehdjkikcfeiaaaGreatAbP
namespace Go.Ab
open Go.RowKit
section
def Eff (l : List AOper) (i : Nat) : Prop := ∃ o, l[i]? = some o ∧ o.op.kind = .effect
theorem effB_nil (i : Nat) : effB [] i = 0 := by simp [effB]
theorem effB_succ (l : List AOper) : ∀ i, effB l (i + 1) = effB l i + (match l[i]? with | some o => if o.op.kind = .effect then 1 else 0 | none => 0) := by
 induction l with
 | nil => intro i; simp [effB_nil]
 | cons o l ih =>
  intro i
  cases i with
  | zero => rw [effB_cons, effB_zero, effB_zero]; simp
  | succ i => rw [effB_cons, effB_cons, ih i]; simp; omega
theorem effB_eff {l : List AOper} {i : Nat} (h : Eff l i) : effB l (i + 1) = effB l i + 1 := by
 obtain ⟨o, h1, h2⟩ := h
 rw [effB_succ, h1]; simp [h2]
theorem effB_mono {l : List AOper} {i j : Nat} (h : i ≤ j) : effB l i ≤ effB l j := by
 induction j with
 | zero => have : i = 0 := by omega
           subst this; exact Nat.le_refl _
 | succ j ih =>
  rcases Nat.lt_or_ge i (j + 1) with hj | hj
  · refine Nat.le_trans (ih (by omega)) ?_
    rw [effB_succ]; omega
  · have : i = j + 1 := by omega
    subst this; exact Nat.le_refl _
theorem effB_lt {l : List AOper} {i j : Nat} (hi : Eff l i) (h : i < j) : effB l i < effB l j := by
 have := effB_mono (l := l) h
 rw [Nat.succ_eq_add_one, effB_eff hi] at this; omega
theorem effB_inj {l : List AOper} {i j : Nat} (hi : Eff l i) (hj : Eff l j) (h : effB l i = effB l j) : i = j := by
 rcases Nat.lt_trichotomy i j with h1 | h1 | h1
 · have := effB_lt hi h1; omega
 · exact h1
 · have := effB_lt hj h1; omega
theorem Eff.lt {l : List AOper} {i : Nat} (h : Eff l i) : i < l.length := by
 obtain ⟨o, h, _⟩ := h; exact (List.getElem?_eq_some_iff.1 h).1
def effsF (l : List AOper) (s : Nat) : List Nat := ((l.zipIdx s).filter fun x => decide (x.1.op.kind = .effect)).map (·.2)
theorem effsF_cons (o : AOper) (l : List AOper) (s : Nat) : effsF (o :: l) s = if o.op.kind = .effect then s :: effsF l (s + 1) else effsF l (s + 1) := by
 unfold effsF
 rw [List.zipIdx_cons, List.filter_cons]
 by_cases h : o.op.kind = .effect <;> simp [h]
theorem effsF_len (l : List AOper) : ∀ s, (effsF l s).length = effB l l.length := by
 induction l with
 | nil => intro s; rfl
 | cons o l ih =>
  intro s
  rw [effsF_cons, List.length_cons, effB_cons]
  by_cases h : o.op.kind = .effect
  · simp [h, ih]; omega
  · simp [h, ih]
theorem effsF_get (l : List AOper) : ∀ (s k e : Nat), (effsF l s)[k]? = some e → ∃ i, e = s + i ∧ Eff l i ∧ effB l i = k := by
 induction l with
 | nil => intro s k e h; simp [effsF] at h
 | cons o l ih =>
  intro s k e h
  rw [effsF_cons] at h
  by_cases ho : o.op.kind = .effect
  · simp only [ho, if_true] at h
    cases k with
    | zero => simp at h; exact ⟨0, by omega, ⟨o, rfl, ho⟩, rfl⟩
    | succ k =>
     obtain ⟨i, h1, ⟨q, h2, h3⟩, h4⟩ := ih (s + 1) k e (by simpa using h)
     exact ⟨i + 1, by omega, ⟨q, by simpa using h2, h3⟩, by rw [effB_cons]; simp [ho]; omega⟩
  · simp only [ho, if_false] at h
    obtain ⟨i, h1, ⟨q, h2, h3⟩, h4⟩ := ih (s + 1) k e h
    exact ⟨i + 1, by omega, ⟨q, by simpa using h2, h3⟩, by rw [effB_cons]; simp [ho, h4]⟩
theorem effs_get {l : List AOper} {k e : Nat} (h : (effs l)[k]? = some e) : Eff l e ∧ effB l e = k := by
 obtain ⟨i, h1, h2, h3⟩ := effsF_get l 0 k e h
 have : e = i := by omega
 subst this; exact ⟨h2, h3⟩
theorem effs_len (l : List AOper) : (effs l).length = effB l l.length := effsF_len l 0
theorem mem_effs {l : List AOper} {e : Nat} : e ∈ effs l ↔ Eff l e := by
 constructor
 · intro h
   obtain ⟨k, hk⟩ := List.getElem?_of_mem h
   exact (effs_get hk).1
 · intro h
   have hlt : effB l e < (effs l).length := by rw [effs_len]; exact effB_lt h h.lt
   obtain ⟨h1, h2⟩ := effs_get (List.getElem?_eq_getElem hlt)
   have := effB_inj h h1 h2.symm
   rw [this]; exact List.getElem_mem hlt
theorem takeWhile_le {α : Type} (p : α → Bool) : ∀ (l : List α) (c : Nat), (∀ e, l[c]? = some e → p e = false) → (l.takeWhile p).length ≤ c
 | [], c, h => by simp
 | x :: l, c, h => by
  rw [List.takeWhile_cons]
  cases hx : p x with
  | false => simp
  | true =>
   cases c with
   | zero => have := h x rfl; rw [hx] at this; cases this
   | succ c => simpa using takeWhile_le p l c fun e he => h e (by simpa using he)
theorem takeWhile_ge {α : Type} (p : α → Bool) : ∀ (l : List α) (c : Nat), c ≤ l.length → (∀ k e, k < c → l[k]? = some e → p e = true) → c ≤ (l.takeWhile p).length
 | [], c, hc, h => by simp at hc; omega
 | x :: l, c, hc, h => by
  cases c with
  | zero => omega
  | succ c =>
   rw [List.takeWhile_cons, h 0 x (by omega) rfl]
   simpa using takeWhile_ge p l c (by simpa using hc) fun k e hk he => h (k + 1) e (by omega) (by simpa using he)
theorem allIdx_get {α : Type} {l : List α} {f : α → Nat → Bool} (h : allIdx l f = true) (i : Nat) (x : α) (hx : l[i]? = some x) : f x i = true := by
 unfold allIdx at h
 rw [List.all_eq_true] at h
 refine h (x, i) ?_
 rw [List.mem_zipIdx_iff_getElem?]
 exact hx
def Alloc (l : List AOper) (i : Nat) : Prop := ∃ o, l[i]? = some o ∧ o.op.isAlloc = true
structure DrawF (ops : Array Oper) (aos : List AOper) (pre : Nat → Nat → Bool) : Prop where
 f1 : ∀ (i : Nat) (o : Oper), ops[i]? = some o → ∀ e ∈ o.after, Region.binds .any e = true → e.on < i ∧ pre i e.on = true
 f2 : ∀ i j, i < aos.length → j < aos.length → pre i j = true → j < i ∧ ∃ o, ops[i]? = some o ∧ ∃ e ∈ o.after, Region.binds .any e = true ∧ (e.on = j ∨ pre e.on j = true)
 f3 : ∀ e f, Eff aos e → Eff aos f → e < f → pre f e = true ∨ Alloc aos f
 f4 : ∀ (i j : Nat) (o q : AOper) (t : Nat), aos[i]? = some o → aos[j]? = some q → i ≠ j → q.dst = some t → o.dst ≠ some t
 f5 : ∀ (i : Nat) (o : AOper) (p : Oper), aos[i]? = some o → ops[i]? = some p → (∀ t ∈ o.op.tmps, t ∈ p.looksAt ops) ∧ ∀ t b, o.guard = some (t, b) → t ∈ p.looksAt ops
 f6 : ∀ (i j : Nat) (p : Oper) (q : AOper) (t : Nat), ops[i]? = some p → aos[j]? = some q → i ≠ j → t ∈ p.looksAt ops → q.dst = some t → pre i j = true ∨ pre j i = true
 f7 : ∀ (f : Nat) (q : AOper), aos[f]? = some q → q.op.isAlloc = true → (∃ t, q.dst = some t) ∧ ∀ (p : Oper) (j t : Nat), ops[j]? = some p → j ≠ f → t ∈ p.looksAt ops → q.dst = some t → ∀ e, Eff aos e → e ≤ f → pre j e = true
 f8 : ∀ (i : Nat) (o : AOper) (k : Nat), aos[i]? = some o → o.op.kind = .read → ((effs aos).takeWhile fun e => pre i e).length ≤ k → k ≤ ((effs aos).takeWhile fun e => !pre e i).length → k ≠ effB aos i → k ∈ o.see
 f9 : ∀ (i : Nat) (o : Oper) (cs : Array SelectCase) (b : Bool), ops[i]? = some o → o.op ≠ .select cs b
theorem drawF {ops : Array Oper} {aos : List AOper} (h : drawOk ops aos = true) : DrawF ops aos (bitOf (preOf ops)) := by
 simp only [drawOk, Bool.and_eq_true] at h
 obtain ⟨⟨⟨⟨⟨⟨⟨⟨h1, h2⟩, h3⟩, h4⟩, h5⟩, h6⟩, h7⟩, h8⟩, h9⟩ := h
 have tl : ∀ {i : Nat} {o : Oper}, ops[i]? = some o → ops.toList[i]? = some o := by intro i o hh; simpa using hh
 constructor
 · intro i o ho e he hb
   have := allIdx_get h1 i o (tl ho)
   rw [List.all_eq_true] at this
   have := this e (by simpa using he)
   simpa [hb] using this
 · intro i j hi hj hp
   rw [List.all_eq_true] at h2
   have := h2 i (by simpa using hi)
   rw [List.all_eq_true] at this
   have := this j (by simpa using hj)
   simp only [hp, Bool.not_true, Bool.false_or, Bool.and_eq_true, decide_eq_true_eq] at this
   obtain ⟨k1, k2⟩ := this
   refine ⟨k1, ?_⟩
   cases ho : ops[i]? with
   | none => rw [ho] at k2; simp at k2
   | some o =>
    rw [ho] at k2
    simp only [Option.map_some, Option.getD_some, List.any_eq_true, Bool.and_eq_true, Bool.or_eq_true, beq_iff_eq] at k2
    obtain ⟨e, e1, e2, e3⟩ := k2
    exact ⟨o, rfl, e, by simpa using e1, e2, e3⟩
 · intro e f he hf hlt
   rw [List.all_eq_true] at h3
   have := h3 e (mem_effs.2 he)
   rw [List.all_eq_true] at this
   have := this f (mem_effs.2 hf)
   simp only [Bool.or_eq_true, Bool.not_eq_true', decide_eq_false_iff_not] at this
   rcases this with (k | k) | k
   · exact absurd hlt k
   · exact .inl k
   · refine .inr ?_
     cases ho : aos[f]? with
     | none => rw [ho] at k; simp at k
     | some o => rw [ho] at k; exact ⟨o, ho, by simpa using k⟩
 · intro i j o q t ho hq hne hd
   have := allIdx_get (allIdx_get h4 i o ho) j q hq
   simp only [Bool.or_eq_true, decide_eq_true_eq, Option.isNone_iff_eq_none, hd, reduceCtorEq, or_false] at this
   rcases this with k | k
   · exact absurd k hne
   · exact fun e => k e.symm
 · intro i o p ho hp
   have := allIdx_get h5 i o ho
   rw [hp] at this
   simp only [Option.map_some, Option.getD_some, Bool.and_eq_true, List.all_eq_true, List.contains_iff_mem] at this
   refine ⟨this.1, fun t b hg => ?_⟩
   have k := this.2
   rw [hg] at k
   simpa using k
 · intro i j p q t hp hq hne ht hd
   have := allIdx_get (allIdx_get h6 i p (tl hp)) j q hq
   simp only [Bool.or_eq_true, decide_eq_true_eq, List.all_eq_true, Bool.not_eq_true', decide_eq_false_iff_not] at this
   rcases this with k | k
   · exact absurd k hne
   · rcases k t ht with (k | k) | k
     · exact absurd hd k
     · exact .inl k
     · exact .inr k
 · intro f q hq ha
   have := allIdx_get h7 f q hq
   simp only [ha, Bool.not_true, Bool.false_or, Bool.and_eq_true] at this
   obtain ⟨k1, k2⟩ := this
   refine ⟨Option.isSome_iff_exists.1 k1, ?_⟩
   intro p j t hp hne ht hd e he hle
   have := allIdx_get k2 j p (tl hp)
   simp only [Bool.or_eq_true, decide_eq_true_eq, List.all_eq_true, Bool.not_eq_true', decide_eq_false_iff_not] at this
   rcases this with k | k
   · exact absurd k hne
   · rcases k t ht with k | k
     · exact absurd hd k
     · rcases k e (mem_effs.2 he) with k | k
       · omega
       · exact k
 · intro i o k ho hk hlo hhi hne
   have := allIdx_get h8 i o ho
   simp only [hk, ne_eq, not_true_eq_false, decide_false, Bool.false_or, List.all_eq_true, List.contains_iff_mem] at this
   refine this k ?_
   simp only [seesOf, List.mem_filter, List.mem_range, decide_eq_true_eq]
   exact ⟨by omega, hlo, hne⟩
 · intro i o cs b ho hc
   rw [List.all_eq_true] at h9
   have := h9 o (by simpa using Array.mem_of_getElem? ho)
   rw [hc] at this
   simp at this
end
end Go.Ab
