/-
  NetOnce: what was sent, what is gone (plain).
  NetOnce: parts of the network's texts (letters that grow, the argument, the start).
  NetOnce: bools that are written.
  NetOnce: what each call does to what the law keeps.
-/
import Derived.Test.YthnfafphaopnkaaNetM
import Derived.KernelRfl
namespace Go.Proofs.Ythnfafphaopnkaa.netR
open Go.Ab
set_option maxRecDepth 100000
set_option maxHeartbeats 8000000
set_option linter.unusedSimpArgs false
set_option linter.unusedVariables false

/-- What is left of what was sent. -/
def left : List Lt → List Bool → List Lt
  | s :: ss, g :: gs => if g = true then left ss gs else s :: left ss gs
  | _, _ => []
theorem left_snoc : ∀ (ss : List Lt) (gs : List Bool) (l : Lt), ss.length = gs.length → left (ss ++ [l]) (gs ++ [false]) = left ss gs ++ [l]
  | [], [], l, _ => by simp [left]
  | s :: ss, g :: gs, l, h => by
    have ih := left_snoc ss gs l (by simpa using h)
    simp only [List.cons_append, left, ih]
    split <;> simp
  | [], _ :: _, _, h => by simp at h
  | _ :: _, [], _, h => by simp at h
theorem left_mem : ∀ {ss : List Lt} {gs : List Bool} {x : Lt}, x ∈ left ss gs → ∃ i, ∃ (h : i < ss.length) (h' : i < gs.length), ss[i] = x ∧ gs[i] = false
  | s :: ss, g :: gs, x, h => by
    unfold left at h
    split at h
    · obtain ⟨i, h1, h2, h3, h4⟩ := left_mem h
      exact ⟨i + 1, by simp; omega, by simp; omega, by simpa using h3, by simpa using h4⟩
    · rename_i hg
      rcases List.mem_cons.1 h with rfl | h
      · exact ⟨0, by simp, by simp, rfl, by simpa using hg⟩
      · obtain ⟨i, h1, h2, h3, h4⟩ := left_mem h
        exact ⟨i + 1, by simp; omega, by simp; omega, by simpa using h3, by simpa using h4⟩
  | [], _, _, h => by simp [left] at h
  | _ :: _, [], _, h => by simp [left] at h
theorem mem_left : ∀ {ss : List Lt} {gs : List Bool} {i : Nat} (h : i < ss.length) (h' : i < gs.length), gs[i] = false → ss[i] ∈ left ss gs
  | s :: ss, g :: gs, 0, _, _, hg => by
    simp only [List.getElem_cons_zero] at hg
    simp [left, hg]
  | s :: ss, g :: gs, i + 1, h, h', hg => by
    have ih := mem_left (ss := ss) (gs := gs) (i := i) (by simpa using h) (by simpa using h') (by simpa using hg)
    unfold left
    split
    · simpa using ih
    · exact List.mem_cons_of_mem _ (by simpa using ih)
theorem left_set : ∀ {ss : List Lt} {gs : List Bool} {i : Nat} (h : i < ss.length) (_h' : i < gs.length) (p : Lt → Bool), p ss[i] = true → (∀ j (hj : j < ss.length), j ≠ i → p ss[j] = false) → left ss (gs.set i true) = (left ss gs).filter (fun x => !p x)
  | s :: ss, g :: gs, 0, _, _, p, hp, hn => by
    simp only [List.getElem_cons_zero] at hp
    have hall : ∀ x ∈ left ss gs, (!p x) = true := fun x hx => by
      obtain ⟨j, h1, _, rfl, _⟩ := left_mem hx
      have := hn (j + 1) (by simp; omega) (by omega)
      simpa using this
    simp only [List.set_cons_zero, left, if_true]
    split
    · rw [List.filter_eq_self.2 hall]
    · rw [List.filter_cons, hp]
      simp only [Bool.not_true, Bool.false_eq_true, if_false]
      rw [List.filter_eq_self.2 hall]
  | s :: ss, g :: gs, i + 1, h, h', p, hp, hn => by
    have h0 : p s = false := hn 0 (by simp) (by omega)
    have ih := left_set (ss := ss) (gs := gs) (i := i) (by simpa using h) (by simpa using h') p (by simpa using hp) (fun j hj hne => by
      have := hn (j + 1) (by simp; omega) (by omega)
      simpa using this)
    simp only [List.set_cons_succ, left, ih]
    split
    · rfl
    · rw [List.filter_cons, h0]
      simp
theorem erase_find {p : Lt → Bool} : ∀ {l : List Lt} {j : Nat}, l.findIdx? p = some j → (l.Pairwise fun a b => ¬ (p a = true ∧ p b = true)) → ∃ h : j < l.length, p l[j] = true ∧ l.eraseIdx j = l.filter (fun x => !p x)
  | [], _, h, _ => by simp at h
  | a :: l, j, h, hu => by
    rw [List.pairwise_cons] at hu
    rw [List.findIdx?_cons] at h
    cases hp : p a with
    | true =>
      rw [hp] at h
      simp only [if_true, Option.some.injEq] at h
      subst h
      refine ⟨by simp, by simpa using hp, ?_⟩
      have hall : ∀ x ∈ l, (!p x) = true := fun x hx => by
        have := hu.1 x hx
        cases hx' : p x with
        | true => exact absurd ⟨hp, hx'⟩ this
        | false => rfl
      rw [List.eraseIdx_cons_zero, List.filter_cons, hp]
      simp only [Bool.not_true, Bool.false_eq_true, if_false]
      exact (List.filter_eq_self.2 hall).symm
    | false =>
      rw [hp] at h
      simp only [Bool.false_eq_true, if_false] at h
      cases hf : l.findIdx? p with
      | none => rw [hf] at h; simp at h
      | some j' =>
        rw [hf] at h
        simp only [Option.map_some, Option.some.injEq] at h
        subst h
        obtain ⟨h1, h2, h3⟩ := erase_find hf hu.2
        refine ⟨by simpa using h1, by simpa using h2, ?_⟩
        rw [List.eraseIdx_cons_succ, h3, List.filter_cons, hp]
        simp
/-- What the law keeps: what was sent, what is gone, which links are cut. -/
structure On (N : NS) (sent : List Lt) (gone : List Bool) (cut : Int → Int → Bool) : Prop where
  n : sent.length = N.sent
  g : gone.length = sent.length
  ids : ∀ i (h : i < sent.length), sent[i].id = ((i + 1 : Nat) : Int)
  ls : N.ls = left sent gone
  ks : ∀ a b, okA a = true → okA b = true → (cut a b = true ↔ lk a b ∈ N.ks)
theorem On.zero : On N0 [] [] (fun _ _ => false) := ⟨rfl, rfl, fun i h => by simp at h, rfl, fun a b _ _ => by simp [N0]⟩
theorem up_pair {ls : List Lt} (h : Up ls) (id : Int) : ls.Pairwise fun a b => ¬ ((a.id == id) = true ∧ (b.id == id) = true) := by
  refine (up_iff.1 h.1).imp fun hab => ?_
  rintro ⟨h1, h2⟩
  simp only [beq_iff_eq] at h1 h2
  omega
theorem On.find {N : NS} {sent : List Lt} {gone : List Bool} {cut : Int → Int → Bool} (h : On N sent gone cut) (hv : Iv N) (id : Int) :
    (∃ (i : Nat) (h1 : i < sent.length) (h2 : i < gone.length) (j : Nat), id = ((i + 1 : Nat) : Int) ∧ gone[i] = false ∧ nfind N id = some j ∧ N.ls[j]? = some sent[i] ∧ N.ls.eraseIdx j = left sent (gone.set i true)) ∨
    (nfind N id = none ∧ ∀ (i : Nat) (h2 : i < gone.length), id = ((i + 1 : Nat) : Int) → gone[i] = true) := by
  cases hf : nfind N id with
  | some j =>
    left
    unfold nfind at hf
    obtain ⟨h1, h2, h3⟩ := erase_find hf (up_pair hv.up id)
    have hm : N.ls[j] ∈ left sent gone := by rw [← h.ls]; exact List.getElem_mem h1
    obtain ⟨i, q1, q2, q3, q4⟩ := left_mem hm
    have hid := h.ids i q1
    rw [q3] at hid
    have h2' : N.ls[j].id = id := by simpa using h2
    have hie : id = ((i + 1 : Nat) : Int) := by rw [← h2', hid]
    refine ⟨i, q1, q2, j, hie, q4, rfl, by rw [List.getElem?_eq_getElem h1, q3], ?_⟩
    rw [h3, h.ls]
    refine (left_set q1 q2 (fun x => x.id == id) (by rw [h.ids i q1, hie]; simp) fun k hk hne => ?_).symm
    rw [h.ids k hk, hie]
    simp only [beq_eq_false_iff_ne, ne_eq]
    omega
  | none =>
    right
    refine ⟨rfl, fun i h2 hi => ?_⟩
    unfold nfind at hf
    rw [List.findIdx?_eq_none_iff] at hf
    cases hg : gone[i] with
    | true => rfl
    | false =>
      have h1 : i < sent.length := by rw [← h.g]; exact h2
      have hm := mem_left h1 h2 hg
      rw [← h.ls] at hm
      have := hf _ hm
      rw [h.ids i h1, hi] at this
      simp at this
theorem On.put {N : NS} {sent : List Lt} {gone : List Bool} {cut : Int → Int → Bool} (h : On N sent gone cut) (l : Lt) (hc : ¬ 256 ≤ N.ls.length) : (nput N l).2 = (((sent.length + 1 : Nat) : Int), 0) ∧ On (nput N l).1 (sent ++ [{ l with id := ((sent.length + 1 : Nat) : Int) }]) (gone ++ [false]) cut := by
  have hn := h.n
  unfold nput
  rw [if_neg hc]
  refine ⟨by dsimp only; rw [hn]; rfl, ⟨by simp [hn], by simp [h.g], fun i hi => ?_, ?_, h.ks⟩⟩
  · rw [List.length_append, List.length_singleton] at hi
    by_cases e : i = sent.length
    · subst e; simp
    · rw [List.getElem_append_left (by omega)]
      exact h.ids i (by omega)
  · dsimp only
    rw [left_snoc _ _ _ h.g.symm, ← h.ls, hn]
    rfl
theorem On.del {N : NS} {sent : List Lt} {gone : List Bool} {cut : Int → Int → Bool} (h : On N sent gone cut) {i j : Nat} (he : N.ls.eraseIdx j = left sent (gone.set i true)) : On { N with ls := N.ls.eraseIdx j } sent (gone.set i true) cut :=
  ⟨h.n, by simp [h.g], h.ids, he, h.ks⟩
theorem mem_er {α} {l : List α} (hn : l.Nodup) {j : Nat} (hj : j < l.length) (z : α) : z ∈ l.eraseIdx j ↔ z ∈ l ∧ z ≠ l[j] := by
  rw [List.mem_eraseIdx_iff_getElem]
  have hp := List.pairwise_iff_getElem.1 hn
  constructor
  · rintro ⟨i, h1, h2, rfl⟩
    refine ⟨List.getElem_mem h1, ?_⟩
    rcases Nat.lt_or_gt_of_ne h2 with h | h
    · exact hp i j h1 hj h
    · exact fun e => hp j i hj h1 h e.symm
  · rintro ⟨h1, h2⟩
    obtain ⟨i, h3, rfl⟩ := List.getElem_of_mem h1
    exact ⟨i, h3, fun e => h2 (by subst e; rfl), rfl⟩
theorem lk_iff (a b x y : Int) : lk x y = lk a b ↔ (x = a ∧ y = b) ∨ (x = b ∧ y = a) := by
  unfold lk
  simp only [Prod.mk.injEq]
  omega
def turn (cut : Int → Int → Bool) (a b : Int) (t : Bool) : Int → Int → Bool := fun x y => if (x = a ∧ y = b) ∨ (x = b ∧ y = a) then t else cut x y
theorem On.turn {N : NS} {sent : List Lt} {gone : List Bool} {cut : Int → Int → Bool} (h : On N sent gone cut) (hv : Iv N) (a b : Int) (t : Bool) : ((nturn N a b t).2 = 2 ∧ (nturn N a b t).1 = N) ∨ ((nturn N a b t).2 = 0 ∧ okA a = true ∧ okA b = true ∧ a ≠ b ∧ On (nturn N a b t).1 sent gone (turn cut a b t)) := by
  unfold nturn
  by_cases hb : okA a = false ∨ okA b = false ∨ a = b
  · rw [if_pos hb]; exact .inl ⟨rfl, rfl⟩
  rw [if_neg hb]
  right
  have ha : okA a = true := by cases hq : okA a with | true => rfl | false => exact absurd (.inl hq) hb
  have hb' : okA b = true := by cases hq : okA b with | true => rfl | false => exact absurd (.inr (.inl hq)) hb
  have hab : a ≠ b := fun e => hb (.inr (.inr e))
  cases t with
  | true =>
    simp only [if_true]
    refine ⟨trivial, ha, hb', hab, h.n, h.g, h.ids, h.ls, fun x y hx hy => ?_⟩
    dsimp only
    have hk := h.ks x y hx hy
    unfold netR.turn
    have hl := lk_iff a b x y
    by_cases e : (x = a ∧ y = b) ∨ (x = b ∧ y = a)
    · rw [if_pos e, hl.2 e]
      split
      · simpa using ‹_›
      · simp
    · rw [if_neg e, hk]
      split
      · exact Iff.rfl
      · rw [List.mem_append, List.mem_singleton]
        exact ⟨.inl, fun hh => hh.resolve_right fun h2 => e (hl.1 h2)⟩
  | false =>
    simp only [Bool.false_eq_true, if_false]
    refine ⟨trivial, ha, hb', hab, h.n, h.g, h.ids, h.ls, fun x y hx hy => ?_⟩
    dsimp only
    have hk := h.ks x y hx hy
    unfold netR.turn
    have hl := lk_iff a b x y
    cases hf : N.ks.findIdx? (· == lk a b) with
    | none =>
      rw [List.findIdx?_eq_none_iff] at hf
      by_cases e : (x = a ∧ y = b) ∨ (x = b ∧ y = a)
      · rw [if_pos e, hl.2 e]
        simp only [Bool.false_eq_true, false_iff]
        exact fun hm => by simpa using hf _ hm
      · rw [if_neg e, hk]
    | some j =>
      have hj := List.findIdx?_eq_some_iff_getElem.1 hf
      obtain ⟨h1, h2, _⟩ := hj
      have h2 : N.ks[j] = lk a b := by simpa using h2
      have hnd := hv.nd
      have hmem : ∀ z, z ∈ N.ks.eraseIdx j ↔ z ∈ N.ks ∧ z ≠ lk a b := fun z => by rw [mem_er hnd h1, h2]
      rw [hmem]
      by_cases e : (x = a ∧ y = b) ∨ (x = b ∧ y = a)
      · rw [if_pos e, hl.2 e]
        simp
      · rw [if_neg e, hk]
        exact ⟨fun hh => ⟨hh, fun h2 => e (hl.1 h2)⟩, fun hh => hh.1⟩
end Go.Proofs.Ythnfafphaopnkaa.netR
namespace Go.Proofs.Ythnfafphaopnkaa.netR
open Go.Ab
set_option maxRecDepth 100000
set_option maxHeartbeats 8000000
set_option linter.unusedSimpArgs false
set_option linter.unusedVariables false

/-- .. whose object has just these letters. -/
def Fe (σ : St) (fo : Option Nat) (f : V) (ls : List Lt) : Prop := Fl σ fo f ls ∧ ∀ o cs, fo = some o → σ.get o = some (.cells cs) → cs.length = ls.length * 4
theorem appn {σ : St} {fo : Option Nat} {f y : V} {ls m : List Lt} (h : Fe σ fo f ls) (hy : aSrc σ 4 y = some (m.length, flat m)) (hn : ls.length ≤ 1000) (hm : m.length ≤ 1000) :
    ∃ f' fo' σ', aAppend true 4 40 σ f y = some (f', σ') ∧ Fe σ' fo' f' (ls ++ m) ∧ Mv (fo = some ·) σ (fo' = some ·) σ' := by
  obtain ⟨h, he⟩ := h
  by_cases hz : m.length = 0
  · have : m = [] := List.length_eq_zero_iff.1 hz
    subst this
    refine ⟨f, fo, σ, ?_, by rw [List.append_nil]; exact ⟨h, he⟩, Mv.refl _ _⟩
    simp only [aAppend, hy, Option.bind_some, List.length_nil, if_true]
    cases h <;> rfl
  have fresh : ∀ σ1 : St, Fl (σ1.push (.cells (flat m))) (some σ1.n) (.os σ1.n 0 4 m.length none) m ∧ ∀ o cs, some σ1.n = some o → (σ1.push (.cells (flat m))).get o = some (.cells cs) → cs.length = m.length * 4 := by
    intro σ1
    refine ⟨.os get_push_self (by rw [List.take_of_length_le (by rw [flat_length]; omega)]) m.length (flat_length m) (Nat.le_refl _), fun o cs ho hg => ?_⟩
    cases ho
    rw [get_push_self] at hg
    cases hg
    exact flat_length m
  cases h with
  | nil =>
    refine ⟨.os σ.n 0 4 m.length none, some σ.n, σ.push (.cells (flat m)), ?_, ?_, ?_⟩
    · have e4 : m.length * 40 ≤ roomB ∧ m.length ≤ roomB := by unfold roomB; omega
      simp only [aAppend, hy, Option.bind_some, hz, if_false, flat_one', if_true, aGrow, aFresh, e4, true_and, Nat.zero_add, Nat.zero_mul, List.length_nil, List.all_nil, List.nil_append]
    · exact fresh σ
    · exact ⟨(Kept.refl _ _).push _, fun x hx => .inr (by cases hx; exact Nat.le_refl _)⟩
  | vs =>
    refine ⟨.os σ.n 0 4 m.length none, some σ.n, σ.push (.cells (flat m)), ?_, ?_, ?_⟩
    · have e4 : m.length * 40 ≤ roomB ∧ m.length ≤ roomB := by unfold roomB; omega
      simp only [aAppend, hy, Option.bind_some, hz, if_false, flat_one', if_true, aGrow, aFresh, e4, true_and, Nat.zero_add, Nat.zero_mul, List.length_nil, List.all_nil, List.nil_append]
    · exact fresh σ
    · exact ⟨(Kept.refl _ _).push _, fun x hx => .inr (by cases hx; exact Nat.le_refl _)⟩
  | @os o _ cs h1 h2 k h3 h4 =>
    have h5 := he o cs rfl h1
    have hk : k = ls.length := by omega
    subst hk
    refine ⟨.os σ.n 0 4 (ls.length + m.length) none, some σ.n, (σ.put o none).push (.cells (cs ++ flat m)), ?_, ?_, ?_⟩
    · have e4 : (ls.length + m.length) * 40 ≤ roomB ∧ ls.length + m.length ≤ roomB := by unfold roomB; omega
      have e1 : ¬ ((ls.length + m.length) * 4 ≤ cs.length) := by omega
      have e0 : (0 : Nat) < 4 := by decide
      have e2 : ls.length * 4 = cs.length := by omega
      have e3 : ls.length * 4 ≤ cs.length := by omega
      simp only [aAppend, hy, Option.bind_some, hz, if_false, flat_one', if_true, aGrow, h1, e0, e4, Nat.zero_add, e3, and_self, aObj, e1, List.drop_zero]
      simp only [e2, if_true]
    · have e : cs = flat ls := by rw [← h2, List.take_of_length_le (by omega)]
      have e2 : flat (ls ++ m) = cs ++ flat m := by rw [flat_append, e]
      have g : ((σ.put o none).push (.cells (cs ++ flat m))).get σ.n = some (.cells (cs ++ flat m)) := by rw [St.get_push]; simp [St.n_put]
      have e3 : (cs ++ flat m).length = (ls ++ m).length * 4 := by rw [← e2, flat_length]
      refine ⟨?_, fun o' cs' ho hg => ?_⟩
      · have := Fl.os (o := σ.n) (ls := ls ++ m) g (by rw [e2, List.take_of_length_le (by omega)]) (ls ++ m).length e3 (Nat.le_refl _)
        simpa using this
      · cases ho
        rw [g] at hg
        cases hg
        exact e3
    · exact ⟨((Kept.refl (some o = some ·) _).put (.inl rfl) (St.get_lt h1) _).push _, fun x hx => .inr (by cases hx; exact Nat.le_refl _)⟩

/-- .. of one's own. -/
theorem appM {σ0 σ : St} (k : Kept noX σ0 σ) {fo : Option Nat} {f y : V} {ls m : List Lt} (h : Fe σ fo f ls) (hfo : ∀ p, fo = some p → σ0.n ≤ p) (hy : aSrc σ 4 y = some (m.length, flat m)) (hn : ls.length ≤ 1000) (hm : m.length ≤ 1000) :
    W (aAppend true 4 40 σ f y) fun r => ∃ fo', Fe r.2 fo' r.1 (ls ++ m) ∧ (∀ p, fo' = some p → σ0.n ≤ p) ∧ Kept noX σ0 r.2 ∧ Mv (fo = some ·) σ (fo' = some ·) r.2 := by
  obtain ⟨f', fo', σ', h1, h2, h3⟩ := appn h hy hn hm
  refine ⟨_, h1, fo', h2, fun p hp => ?_, ⟨Nat.le_trans k.n h3.kept.n, fun o x _ ho => ?_⟩, h3⟩
  · rcases h3.own p hp with h | h
    · exact hfo p h
    · have := k.n; omega
  · refine h3.kept.get o x (fun hq => ?_) (k.get o x (fun h => h) ho)
    have := hfo o hq
    have := St.get_lt ho
    omega

theorem Fe.kept {X : Nat → Prop} {σ σ' : St} {o : Option Nat} {f : V} {ls : List Lt} (h : Fe σ o f ls) (k : Kept X σ σ') (hx : ∀ p, o = some p → ¬ X p) : Fe σ' o f ls := by
  refine ⟨h.1.kept k hx, fun p cs hp hg => ?_⟩
  subst hp
  cases h.1 with
  | @os _ _ ds h1 h2 kk h3 h4 =>
    have := k.get p _ (hx p rfl) h1
    rw [this] at hg
    cases hg
    exact h.2 p _ rfl h1

theorem Fl.src {σ : St} {fo : Option Nat} {f : V} {ls : List Lt} (h : Fl σ fo f ls) : aSrc σ 4 f = some (ls.length, flat ls) := by
  cases h with
  | nil => rfl
  | vs => rfl
  | @os o _ cs h1 h2 k h3 h4 =>
    have e : 0 + ls.length * 4 ≤ cs.length := by omega
    simp only [aSrc, h1, if_true, e, List.drop_zero, h2, and_self]
section cells
variable {a : Sc} {l : List UInt8} {o f z n : Nat} {cs : List V} {w : Own} {lim : Option Nat} {g : Fn} {x y : List V}
theorem c_agg : (V.agg cs).cellsOf = cs := rfl
theorem c_sc : (V.sc a).cellsOf = [.sc a] := rfl
theorem c_str : (V.str l).cellsOf = [.str l] := rfl
theorem c_ptr : (V.ptr o f).cellsOf = [.ptr o f] := rfl
theorem c_elt : (V.elt cs f).cellsOf = [.elt cs f] := rfl
theorem c_vs : (V.vs w z n cs).cellsOf = [.vs w z n cs] := rfl
theorem c_os : (V.os o f z n lim).cellsOf = [.os o f z n lim] := rfl
theorem c_mp : (V.mp o).cellsOf = [.mp o] := rfl
theorem c_fn : (V.fn g x y).cellsOf = [.fn g x y] := rfl
theorem o_sc : (V.sc a).oneCell = true := rfl
theorem o_str : (V.str l).oneCell = true := rfl
theorem o_ptr : (V.ptr o f).oneCell = true := rfl
theorem o_elt : (V.elt cs f).oneCell = true := rfl
theorem o_vs : (V.vs w z n cs).oneCell = true := rfl
theorem o_os : (V.os o f z n lim).oneCell = true := rfl
theorem o_mp : (V.mp o).oneCell = true := rfl
theorem o_fn : (V.fn g x y).oneCell = true := rfl
end cells
theorem NX.lt {σ : St} {n mo : Nat} {fo : Option Nat} {N : NS} (h : NR σ n mo fo N) {x : Nat} (hx : NX n mo fo x) : x < σ.n := by
  obtain ⟨f, es, c, q1, q2, q3, q4, q5⟩ := h
  rcases hx with hx | hx | hx
  · rw [hx]; exact St.get_lt q1
  · rw [hx]; exact St.get_lt q3
  · subst hx; exact q2.lt

theorem works_run : (callY Tab.tbl 9223372036854775999 noYl 9 [] St.empty).map (·.1) = some (.sc (.bool true)) := by kernel_rfl
theorem works_ok : ∃ σ1, callY Tab.tbl (9223372036854775991 + 8) noYl 9 [] St.empty = some (.sc (.bool true), σ1) := by
  have h := works_run
  rw [Option.map_eq_some_iff] at h
  obtain ⟨⟨v, σ1⟩, h1, h2⟩ := h
  exact ⟨σ1, by rw [show (9223372036854775991 + 8 : Nat) = 9223372036854775999 from rfl, h1]; simp only at h2; rw [h2]⟩
theorem ops_of {x : V} (w : ArgA (.sl (.agg [.int .i64, .int .i64, .int .i64, .str])) x) : ∃ ops, Ops x ops := by
  obtain ⟨es, h1, hz, h3, h4⟩ := argA_sl w
  have : ∃ ops : List Op, es = ops.map oc ∧ ∀ o ∈ ops, I64 o.a ∧ I64 o.b ∧ I64 o.k := by
    clear h3 h4 w hz
    induction es with
    | nil => exact ⟨[], rfl, by simp⟩
    | cons e es ih =>
      obtain ⟨ops, rfl, h6⟩ := ih fun a ha => h1 a (List.mem_cons_of_mem _ ha)
      have h := h1 e List.mem_cons_self
      simp only [Arg, ArgL] at h
      obtain ⟨a1, b1, rfl, ⟨n1, rfl, w1⟩, ⟨a2, b2, rfl, ⟨n2, rfl, w2⟩, ⟨a3, b3, rfl, ⟨n3, rfl, w3⟩, ⟨a4, b4, rfl, ⟨n4, rfl, w4⟩, rfl⟩⟩⟩⟩ := h
      refine ⟨⟨n1, n2, n3, n4⟩ :: ops, rfl, ?_⟩
      intro o ho
      rcases List.mem_cons.1 ho with ho | ho
      · subst ho
        have e1 : IntKind.i64.min = -9223372036854775808 := rfl
        have e2 : IntKind.i64.max = 9223372036854775807 := rfl
        simp [Lit.wf, e1, e2] at w1 w2 w3
        simp [I64]
        refine ⟨?_, ?_, ?_⟩ <;> omega
      · exact h6 o ho
  obtain ⟨ops, rfl, h6⟩ := this
  have hf : (ops.map oc).flatten = ofl ops := rfl
  refine ⟨ops, ⟨by simpa using h3.len, h3.size, fun i hi => ?_, h6, by simpa [maxLen] using h4⟩⟩
  have := h3.el i (by simpa using hi)
  rw [hf] at this
  exact this
end Go.Proofs.Ythnfafphaopnkaa.netR
namespace Go.Proofs.Ythnfafphaopnkaa.netR
open Go.Ab
set_option maxRecDepth 100000
set_option maxHeartbeats 8000000
set_option linter.unusedSimpArgs false
set_option linter.unusedVariables false

def bV (b : Bool) : V := .sc (.bool b)
/-- A slice of bools: whose object. -/
inductive Gb (σ : St) : Option Nat → V → List Bool → Prop
  | nil : Gb σ none (.sc .nilS) []
  | os {o : Nat} {gs : List Bool} {cs : List V} (h1 : σ.get o = some (.cells cs)) (h2 : cs.take gs.length = gs.map bV) (h3 : gs.length ≤ cs.length) : Gb σ (some o) (.os o 0 1 gs.length none) gs
theorem Gb.kept {X : Nat → Prop} {σ σ' : St} {o : Option Nat} {f : V} {gs : List Bool} (h : Gb σ o f gs) (k : Kept X σ σ') (hx : ∀ p, o = some p → ¬ X p) : Gb σ' o f gs := by
  cases h with
  | nil => exact .nil
  | os h1 h2 h3 => exact .os (k.get _ _ (hx _ rfl) h1) h2 h3
theorem Gb.len {σ : St} {o : Option Nat} {f : V} {gs : List Bool} (h : Gb σ o f gs) : aLen f = some (.sc (.int .i64 gs.length)) := by
  cases h <;> rfl
theorem Gb.size {σ : St} {o : Option Nat} {f : V} {gs : List Bool} (h : Gb σ o f gs) : slSize 1 f = true := by
  cases h <;> rfl
theorem Gb.lt {σ : St} {o : Nat} {f : V} {gs : List Bool} (h : Gb σ (some o) f gs) : o < σ.n := by
  cases h with
  | os h1 => exact St.get_lt h1
theorem Gb.cell {σ : St} {o : Option Nat} {f : V} {gs : List Bool} (h : Gb σ o f gs) : f.cellsOf = [f] ∧ f.oneCell = true := by
  cases h <;> exact ⟨rfl, rfl⟩
theorem Gb.at {σ : St} {o : Option Nat} {f : V} {gs : List Bool} (h : Gb σ o f gs) {i : Nat} (hi : i < gs.length) : ∃ p cs, o = some p ∧ aSlAddr f (.sc (.int .i64 i)) = some (.ptr p i) ∧ σ.get p = some (.cells cs) ∧ cs[i]? = some (bV gs[i]) ∧ i < cs.length ∧ ∀ b, Gb (σ.put p (some (.cells (cs.set i (bV b))))) o f (gs.set i b) := by
  cases h with
  | nil => simp at hi
  | @os o _ cs h1 h2 h3 =>
    refine ⟨o, cs, rfl, ?_, h1, ?_, by omega, fun b => ?_⟩
    · have : (0 : Int) ≤ i ∧ (i : Int) < gs.length := by omega
      simp [aSlAddr, aIdx, this]
    · have h4 : (cs.take gs.length)[i]? = (gs.map bV)[i]? := by rw [h2]
      rw [List.getElem?_take, if_pos hi] at h4
      rw [h4]
      simp [hi]
    · have h4 : (cs.set i (bV b)).take (gs.set i b).length = (gs.set i b).map bV := by
        rw [List.length_set, List.map_set, ← h2, List.take_set]
      have := Gb.os (σ := σ.put o (some (.cells (cs.set i (bV b))))) (o := o) (gs := gs.set i b) (get_put_self h1) h4 (by simpa using h3)
      simpa using this
theorem Gb.app {σ : St} {fo : Option Nat} {f : V} {gs : List Bool} (h : Gb σ fo f gs) (hn : gs.length ≤ 1000) (b : Bool) : ∃ p f' σ', aAppend true 1 1 σ f (.vs .exact 1 1 [bV b]) = some (f', σ') ∧ Gb σ' (some p) f' (gs ++ [b]) ∧ Mv (fo = some ·) σ (some p = some ·) σ' := by
  have hone : [bV b].all V.oneCell = true := rfl
  cases h with
  | nil =>
    refine ⟨σ.n, .os σ.n 0 1 1 none, σ.push (.cells [bV b]), by simp only [aAppend, aSrc, if_true, Option.bind_some, Nat.succ_ne_zero, if_false, hone, aGrow, aFresh, roomB]; rfl, ?_, ?_⟩
    · exact Gb.os (gs := [b]) (cs := [bV b]) get_push_self rfl (Nat.le_refl _)
    · exact ⟨(Kept.refl _ _).push _, fun x hx => .inr (by cases hx; exact Nat.le_refl _)⟩
  | @os o _ cs h1 h2 h3 =>
    have hb : (gs.length + 1) * 1 ≤ roomB ∧ gs.length + 1 ≤ roomB := by unfold roomB; omega
    by_cases hr : gs.length = cs.length
    · refine ⟨σ.n, .os σ.n 0 1 (gs.length + 1) none, (σ.put o none).push (.cells (cs ++ [bV b])), ?_, ?_, ?_⟩
      · have e1 : ¬ ((gs.length + 1) * 1 ≤ cs.length) := by omega
        have e2 : gs.length * 1 = cs.length := by omega
        have e3 : cs.length / 1 * 1 = cs.length := by omega
        have e0 : (0 : Nat) < 1 := by decide
        have e4 : gs.length * 1 ≤ cs.length := by omega
        simp only [aAppend, aSrc, if_true, Option.bind_some, Nat.succ_ne_zero, if_false, hone, aGrow, h1, hb, e0, Nat.zero_add, e4, and_self, aObj, e1, e2, List.drop_zero]
        simp
      · have e : (cs ++ [bV b]).take (gs ++ [b]).length = (gs ++ [b]).map bV := by
          rw [List.take_of_length_le (by simp; omega), List.map_append, ← h2, List.take_of_length_le (by omega)]
          rfl
        have := Gb.os (σ := (σ.put o none).push (.cells (cs ++ [bV b]))) (o := σ.n) (gs := gs ++ [b]) (cs := cs ++ [bV b]) (by rw [St.get_push]; simp [St.n_put]) e (by simp; omega)
        simpa using this
      · refine ⟨((Kept.refl (some o = some ·) _).put (.inl rfl) (St.get_lt h1) _).push _, fun x hx => .inr (by cases hx; exact Nat.le_refl _)⟩
    · refine ⟨o, .os o 0 1 (gs.length + 1) none, σ.put o (some (.cells (splice cs (gs.length * 1) [bV b]))), ?_, ?_, ?_⟩
      · have e1 : (gs.length + 1) * 1 ≤ cs.length := by omega
        have e2 : gs.length * 1 ≤ cs.length := by omega
        have e0 : (0 : Nat) < 1 := by decide
        simp only [aAppend, aSrc, if_true, Option.bind_some, Nat.succ_ne_zero, if_false, hone, aGrow, h1, hb, e0, Nat.zero_add, and_self, aObj, e1, e2]
      · have e : (splice cs (gs.length * 1) [bV b]).take (gs ++ [b]).length = (gs ++ [b]).map bV := by
          unfold splice
          rw [Nat.mul_one, h2, List.map_append, List.take_append_of_le_length (by simp), List.take_of_length_le (by simp)]
          rfl
        have := Gb.os (σ := σ.put o (some (.cells (splice cs (gs.length * 1) [bV b])))) (o := o) (gs := gs ++ [b]) (get_put_self h1) e (by rw [splice_length (by simp; omega)]; simp; omega)
        simpa using this
      · exact ⟨(Kept.refl (some o = some ·) _).put (.inl rfl) (St.get_lt h1) _, fun x hx => .inl hx⟩
end Go.Proofs.Ythnfafphaopnkaa.netR
namespace Go.Proofs.Ythnfafphaopnkaa.netR
open Go.Ab
set_option maxRecDepth 100000
set_option maxHeartbeats 8000000
set_option linter.unusedSimpArgs false
set_option linter.unusedVariables false

theorem On.send {N : NS} {sent : List Lt} {gone : List Bool} {cut : Int → Int → Bool} (h : On N sent gone cut) (a b : Int) (s : List UInt8) :
    ((nsend N a b s).2.2 ≠ 0 ∧ (nsend N a b s).1 = N) ∨ ((nsend N a b s).2 = (((sent.length + 1 : Nat) : Int), 0) ∧ okA a = true ∧ okA b = true ∧ cut a b = false ∧ On (nsend N a b s).1 (sent ++ [⟨((sent.length + 1 : Nat) : Int), a, b, s⟩]) (gone ++ [false]) cut) := by
  unfold nsend
  by_cases h1 : okA a = false ∨ okA b = false
  · rw [if_pos h1]; exact .inl ⟨by simp, rfl⟩
  rw [if_neg h1]
  by_cases h2 : 4108 < s.length
  · rw [if_pos h2]; exact .inl ⟨by simp, rfl⟩
  rw [if_neg h2]
  by_cases h3 : lk a b ∈ N.ks
  · rw [if_pos h3]; exact .inl ⟨by simp, rfl⟩
  rw [if_neg h3]
  by_cases h4 : 256 ≤ N.ls.length
  · left
    unfold nput
    rw [if_pos h4]
    exact ⟨by simp, rfl⟩
  have ha : okA a = true := by cases hq : okA a with | true => rfl | false => exact absurd (.inl hq) h1
  have hb : okA b = true := by cases hq : okA b with | true => rfl | false => exact absurd (.inr hq) h1
  obtain ⟨p1, p2⟩ := h.put ⟨0, a, b, s⟩ h4
  refine .inr ⟨p1, ha, hb, ?_, p2⟩
  cases hc : cut a b with
  | false => rfl
  | true => exact absurd ((h.ks a b ha hb).1 hc) h3
theorem On.twice {N : NS} {sent : List Lt} {gone : List Bool} {cut : Int → Int → Bool} (h : On N sent gone cut) (hv : Iv N) (id : Int) :
    ((ntwice N id).2.2 ≠ 0 ∧ (ntwice N id).1 = N) ∨ (∃ (i : Nat) (h1 : i < sent.length) (h2 : i < gone.length), id = ((i + 1 : Nat) : Int) ∧ gone[i] = false ∧ (ntwice N id).2 = (((sent.length + 1 : Nat) : Int), 0) ∧ On (ntwice N id).1 (sent ++ [{ sent[i] with id := ((sent.length + 1 : Nat) : Int) }]) (gone ++ [false]) cut) := by
  unfold ntwice
  rcases h.find hv id with ⟨i, h1, h2, j, e1, e2, e3, e4, e5⟩ | ⟨e1, e2⟩
  · rw [e3]
    dsimp only
    rw [e4]
    by_cases h4 : 256 ≤ N.ls.length
    · left
      unfold nput
      rw [if_pos h4]
      exact ⟨by simp, rfl⟩
    obtain ⟨p1, p2⟩ := h.put sent[i] h4
    exact .inr ⟨i, h1, h2, e1, e2, p1, p2⟩
  · rw [e1]
    exact .inl ⟨by simp, rfl⟩
theorem On.deliver {N : NS} {sent : List Lt} {gone : List Bool} {cut : Int → Int → Bool} (h : On N sent gone cut) (hv : Iv N) (id : Int) :
    (∃ (i : Nat) (h1 : i < sent.length) (h2 : i < gone.length), id = ((i + 1 : Nat) : Int) ∧ gone[i] = false ∧ (ndeliver N id).2 = (sent[i], 0) ∧ On (ndeliver N id).1 sent (gone.set i true) cut) ∨ ((ndeliver N id).2.2 ≠ 0 ∧ (ndeliver N id).1 = N ∧ ∀ (i : Nat) (h2 : i < gone.length), id = ((i + 1 : Nat) : Int) → gone[i] = true) := by
  unfold ndeliver
  rcases h.find hv id with ⟨i, h1, h2, j, e1, e2, e3, e4, e5⟩ | ⟨e1, e2⟩
  · rw [e3]
    dsimp only
    rw [e4]
    exact .inl ⟨i, h1, h2, e1, e2, rfl, h.del e5⟩
  · rw [e1]
    exact .inr ⟨by simp, rfl, e2⟩

/-! ## The cells of what is cut -/
structure CU (cs : List V) (cut : Int → Int → Bool) : Prop where
  len : cs.length = 256
  el : ∀ a b : Nat, a < 16 → b < 16 → cs[a * 16 + b]? = some (bV (cut a b))
theorem CU.zero : CU (List.replicate 256 (bV false)) fun _ _ => false :=
  ⟨List.length_replicate, fun a b ha hb => by rw [List.getElem?_replicate, if_pos (by omega)]⟩
theorem okA_nat {a : Int} (h : okA a = true) : ∃ n : Nat, a = n ∧ n < 16 := by
  unfold okA at h
  simp only [Bool.and_eq_true, decide_eq_true_eq] at h
  exact ⟨a.toNat, by omega, by omega⟩
theorem CU.put {cs : List V} {cut : Int → Int → Bool} (h : CU cs cut) {a b : Nat} (ha : a < 16) (hb : b < 16) (t : Bool) :
    CU ((cs.set (a * 16 + b) (bV t)).set (b * 16 + a) (bV t)) (turn cut a b t) := by
  refine ⟨by simp [h.len], fun x y hx hy => ?_⟩
  have hl := h.len
  unfold turn
  rw [List.getElem?_set, List.length_set, List.getElem?_set]
  by_cases e : b * 16 + a = x * 16 + y
  · rw [if_pos e, if_pos (by omega), if_pos (by right; omega)]
  · rw [if_neg e]
    by_cases e2 : a * 16 + b = x * 16 + y
    · rw [if_pos e2, if_pos (by omega), if_pos (by left; omega)]
    · rw [if_neg e2, if_neg (by omega)]
      exact h.el x y hx hy

/-! ## What the law keeps, in the store -/
structure OS (σ : St) (n mo : Nat) (fo : Option Nat) (N : NS) (so : Option Nat) (sv : V) (sent : List Lt) (go : Option Nat) (gv : V) (gone : List Bool) (o6 : Nat) (cs : List V) : Prop where
  nr : NR σ n mo fo N
  fl : Fl σ so sv sent
  gb : Gb σ go gv gone
  cx : σ.get o6 = some (.cells cs)
  ns : ∀ p, so = some p → ¬ NX n mo fo p ∧ p ≠ o6 ∧ go ≠ some p
  ng : ∀ p, go = some p → ¬ NX n mo fo p ∧ p ≠ o6
  nc : ¬ NX n mo fo o6
theorem OS.nlt {σ : St} {n mo : Nat} {fo : Option Nat} {N : NS} (h : NR σ n mo fo N) {x : Nat} (hx : NX n mo fo x) : x < σ.n := NX.lt h hx
section
variable {σ σ' : St} {n mo n' mo' : Nat} {fo fo' : Option Nat} {N N' : NS} {so so' : Option Nat} {sv sv' : V} {sent sent' : List Lt} {go go' : Option Nat} {gv gv' : V} {gone gone' : List Bool} {o6 : Nat} {cs cs' : List V}
theorem OS.kept0 (h : OS σ n mo fo N so sv sent go gv gone o6 cs) (k : Kept noX σ σ') : OS σ' n mo fo N so sv sent go gv gone o6 cs :=
  ⟨h.nr.kept0 k, h.fl.kept k (fun _ _ h => h), h.gb.kept k (fun _ _ h => h), k.get _ _ (fun h => h) h.cx, h.ns, h.ng, h.nc⟩
theorem OS.wplay (h : OS σ n mo fo N so sv sent go gv gone o6 cs) (h2 : NR σ' n' mo' fo' N') (m : Mv (NX n mo fo) σ (NX n' mo' fo') σ') : OS σ' n' mo' fo' N' so sv sent go gv gone o6 cs := by
  have out : ∀ p, p < σ.n → ¬ NX n mo fo p → ¬ NX n' mo' fo' p := fun p hp hn hx => by
    rcases m.own p hx with h | h
    · exact hn h
    · omega
  refine ⟨h2, h.fl.kept m.kept fun p hp => (h.ns p hp).1, h.gb.kept m.kept fun p hp => (h.ng p hp).1, m.kept.get _ _ h.nc h.cx, fun p hp => ⟨?_, (h.ns p hp).2⟩, fun p hp => ⟨?_, (h.ng p hp).2⟩, out _ (St.get_lt h.cx) h.nc⟩
  · have := h.fl
    have h3 := (h.ns p hp).1
    subst hp
    exact out _ this.lt h3
  · have := h.gb
    have h3 := (h.ng p hp).1
    subst hp
    exact out _ this.lt h3
theorem OS.wsent (h : OS σ n mo fo N so sv sent go gv gone o6 cs) (h2 : Fl σ' so' sv' sent') (m : Mv (so = some ·) σ (so' = some ·) σ') : OS σ' n mo fo N so' sv' sent' go gv gone o6 cs := by
  refine ⟨h.nr.kept m.kept fun x hx hq => (h.ns x hq).1 hx, h2, h.gb.kept m.kept fun p hp hq => (h.ns p hq).2.2 hp, m.kept.get _ _ (fun hq => (h.ns _ hq).2.1 rfl) h.cx, fun p hp => ?_, h.ng, h.nc⟩
  rcases m.own p hp with h3 | h3
  · exact h.ns p h3
  · refine ⟨fun hx => ?_, ?_, ?_⟩
    · have := NX.lt h.nr hx; omega
    · have := St.get_lt h.cx; omega
    · rintro rfl
      have := h.gb.lt
      omega
theorem OS.wgone (h : OS σ n mo fo N so sv sent go gv gone o6 cs) (h2 : Gb σ' go' gv' gone') (m : Mv (go = some ·) σ (go' = some ·) σ') : OS σ' n mo fo N so sv sent go' gv' gone' o6 cs := by
  refine ⟨h.nr.kept m.kept fun x hx hq => (h.ng x hq).1 hx, h.fl.kept m.kept fun p hp hq => (h.ns p hp).2.2 hq, h2, m.kept.get _ _ (fun hq => (h.ng _ hq).2 rfl) h.cx, fun p hp => ⟨(h.ns p hp).1, (h.ns p hp).2.1, fun hq => ?_⟩, fun p hp => ?_, h.nc⟩
  · rcases m.own p hq with h3 | h3
    · exact (h.ns p hp).2.2 h3
    · have := h.fl
      subst hp
      have := this.lt
      omega
  · rcases m.own p hp with h3 | h3
    · exact h.ng p h3
    · refine ⟨fun hx => ?_, ?_⟩
      · have := NX.lt h.nr hx; omega
      · have := St.get_lt h.cx; omega
theorem OS.wcut (h : OS σ n mo fo N so sv sent go gv gone o6 cs) : OS (σ.put o6 (some (.cells cs'))) n mo fo N so sv sent go gv gone o6 cs' := by
  have k : Kept (· = o6) σ (σ.put o6 (some (.cells cs'))) := Kept.put (X := (· = o6)) (Kept.refl _ _) (.inl rfl) (St.get_lt h.cx) _
  exact ⟨h.nr.kept k fun x hx hq => by subst hq; exact h.nc hx, h.fl.kept k fun p hp => (h.ns p hp).2.1, h.gb.kept k fun p hp => (h.ng p hp).2, get_put_self h.cx, h.ns, h.ng, h.nc⟩
theorem OS.wset (h : OS σ n mo fo N so sv sent go gv gone o6 cs) {i : Nat} (hi : i < gone.length) : ∃ p gs, aSlAddr gv (.sc (.int .i64 i)) = some (.ptr p i) ∧ σ.get p = some (.cells gs) ∧ gs[i]? = some (bV gone[i]) ∧ i < gs.length ∧ p < σ.n ∧ (∀ b, OS (σ.put p (some (.cells (gs.set i (bV b))))) n mo fo N so sv sent go gv (gone.set i b) o6 cs) ∧ ¬ NX n mo fo p ∧ p ≠ o6 ∧ so ≠ some p := by
  obtain ⟨p, gs, hp, a1, a2, a3, a4, a5⟩ := h.gb.at hi
  refine ⟨p, gs, a1, a2, a3, a4, St.get_lt a2, fun b => ?_, (h.ng p hp).1, (h.ng p hp).2, fun hq => (h.ns p hq).2.2 hp⟩
  exact h.wgone (a5 b) ⟨(Kept.refl (go = some ·) _).put (.inl hp) (St.get_lt a2) _, fun x hx => .inl hx⟩
end
end Go.Proofs.Ythnfafphaopnkaa.netR
