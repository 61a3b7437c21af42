/- Blocks held back: a world in which something was made ahead of its turn. -/
import Derived.Test.YtehdjkikcfeiaaaGreatAb16
namespace Go.Ab
open Go.RowKit
section
variable {G : Gh} {σ : St} {w : World}
mutual
theorem Rv.prot {p : Nat → Prop} : ∀ (x : V) (v : Value), Rv G w x v → Rv (G.withProt p) w x v
 | .sc a, v, h => by simpa only [Rv] using h
 | .str l, v, h => by simpa only [Rv] using h
 | .ptr o off, v, h => by simp only [Rv] at h ⊢; exact h
 | .elt cells off, v, h => by
  simp only [Rv] at h ⊢
  obtain ⟨b, s, vals, h1, h2, h3⟩ := h
  exact ⟨b, s, vals, h1, h2, RvL.prot _ _ h3⟩
 | .vs own sz len cells, v, h => by
  simp only [Rv] at h ⊢
  obtain ⟨b, s, cap, vals, h1, h2, h3, h4, h5, h6⟩ := h
  exact ⟨b, s, cap, vals, h1, h2, h3, h4, RvL.prot _ _ h5, by cases own <;> exact h6⟩
 | .os o off sz len lim, v, h => by simp only [Rv] at h ⊢; exact h
 | .mp o, v, h => by simp only [Rv] at h ⊢; exact h
 | .yl o, v, h => by simp only [Rv] at h ⊢; exact h
 | .fn f first captured, v, h => by
  simp only [Rv] at h ⊢
  obtain ⟨fs, cs, h1, h2, h3⟩ := h
  exact ⟨fs, cs, h1, RvL.prot _ _ h2, RvL.prot _ _ h3⟩
 | .ifc t x, v, h => by
  simp only [Rv] at h ⊢
  obtain ⟨y, h1, h2⟩ := h
  exact ⟨y, h1, Rv.prot _ _ h2⟩
 | .agg cells, v, h => by
  simp only [Rv] at h ⊢
  obtain ⟨vs, h1, h2⟩ := h
  exact ⟨vs, h1, RvL.prot _ _ h2⟩
 | .tup xs, v, h => by
  simp only [Rv] at h ⊢
  obtain ⟨vs, h1, h2⟩ := h
  exact ⟨vs, h1, RvL.prot _ _ h2⟩
theorem RvL.prot {p : Nat → Prop} : ∀ (xs : List V) (l : List Value), RvL G w xs l → RvL (G.withProt p) w xs l
 | [], l, h => by simpa only [RvL] using h
 | x :: xs, l, h => by
  simp only [RvL] at h ⊢
  obtain ⟨v, vs, h1, h2, h3⟩ := h
  exact ⟨v, vs, h1, Rv.prot _ _ h2, RvL.prot _ _ h3⟩
end
theorem EntsR.prot {p : Nat → Prop} : ∀ {es : List (V × V × Nat)} {l : List MapEntry}, EntsR G w es l → EntsR (G.withProt p) w es l
 | [], l, h => h
 | (k, x, n) :: es, l, h => by
  obtain ⟨m, l', h1, h2, h3, h4, h5⟩ := h
  exact ⟨m, l', h1, Rv.prot _ _ h2, Rv.prot _ _ h3, h4, EntsR.prot h5⟩
theorem bl_prot {p : Nat → Prop} {o : Nat} {x : Ob} : bl (G.withProt p) o x = bl G o x := by cases x <;> rfl
theorem Ok.prot {p : Nat → Prop} {o : Nat} {x : Ob} (h : Ok G w o x) (hp : ∀ b, bl G o x = some b → ¬ p b) : Ok (G.withProt p) w o x := by
 cases x with
 | cells cs =>
  obtain ⟨b, s, vals, h1, h2, h3, h4, h5, h6⟩ := h
  exact ⟨b, s, vals, h1, RvL.prot _ _ h2, h3, h4, h5, hp b (by simp [bl, h1])⟩
 | map es c =>
  obtain ⟨b, s, ents, h1, h2, h3, h4, h5⟩ := h
  exact ⟨b, s, ents, h1, h2, h3.prot, h4, hp b (by simp [bl, h1])⟩
 | tok =>
  obtain ⟨b, n, h1, h2, h3, h4⟩ := h
  exact ⟨b, n, h1, h2, h3, hp b (by simp [bl, h1])⟩
 | loop st pe =>
  obtain ⟨b, s, r, h1, h2, h3, h4, h5⟩ := h
  exact ⟨b, s, r, h1, h2, h3, h4, hp b (by simp [bl, h1])⟩
theorem Rs.prots (h : Rs G σ w) {p : Nat → Prop} (hs : ∀ b, p b → b < w.heap.size) (hp : ∀ o x b, σ.get o = some x → bl G o x = some b → ¬ p b) : Rs (G.withProt p) σ w :=
 ⟨h.ob, h.tk, h.lp, h.fr, hs, fun o x hx => (h.ok o x hx).prot fun b hb => hp o x b hx hb, fun o o' x x' b h1 h2 h3 h4 => h.sep o o' x x' b h1 h2 (by rw [← bl_prot (p := p)]; exact h3) (by rw [← bl_prot (p := p)]; exact h4)⟩
theorem Rs.notProt (h : Rs G σ w) {o : Nat} {x : Ob} {b : Nat} (hx : σ.get o = some x) (hb : bl G o x = some b) : ¬ G.prot b ∧ b < w.heap.size := by
 obtain ⟨b0, h0, h1, h2⟩ := (h.ok o x hx).lt
 rw [h0] at hb; cases hb
 exact ⟨h2, h1⟩
theorem Rs.less (h : Rs G σ w) {p : Nat → Prop} (hp : ∀ b, p b → G.prot b) : Rs (G.withProt p) σ w :=
 h.prots (fun b hb => h.prot b (hp b hb)) fun _ _ b hx hb hpb => (h.notProt hx hb).1 (hp b hpb)
theorem Ext.less {G' : Gh} {w' : World} (e : Ext G w G' w') {p : Nat → Prop} (hp : ∀ b, p b → G.prot b) : Ext (G.withProt p) w (G'.withProt p) w' :=
 ⟨e.ob, e.tk, e.lp, e.fr, e.row, e.size, rfl, fun b hb => e.frp b (hp b hb), e.below.sub hp⟩
theorem Rs.adopt (h : Rs G σ w) {b : Nat} {cs : List V} {vals : List Value} {arr : Array Value} {t : TypeId} (hb : G.prot b) (hf : G.fr b = 0) (hh : w.heap[b]? = some (.cells arr t (0, 0)))
  (hr : RvL G w cs vals) (hv : ∀ (j : Nat) v, vals[j]? = some v → arr[j]? = some v) (hl : vals.length ≤ arr.size) {p : Nat → Prop} (hp : ∀ k, p k → G.prot k ∧ k ≠ b) :
  Rs ((G.withProt p).addOb σ.n (b, 0)) (σ.push (.cells cs)) w := by
 have e : Ext (G.withProt p) w ((G.withProt p).addOb σ.n (b, 0)) w :=
  ⟨fun o y hy => by simp only [Gh.addOb]; rw [if_neg (h.ob_n o y hy)]; exact hy, fun _ _ h => h, fun _ _ h => h, fun _ => Nat.le_refl _, fun _ _ _ => rfl, fun _ arr _ fz h => ⟨arr, fz, h, rfl⟩, rfl, fun _ _ => rfl, Keeps.refl _ _⟩
 have h' := h.less (p := p) fun k hk => (hp k hk).1
 have blx : bl ((G.withProt p).addOb σ.n (b, 0)) σ.n (.cells cs) = some b := by simp [bl, Gh.addOb]
 have blo : ∀ o x, σ.get o = some x → bl ((G.withProt p).addOb σ.n (b, 0)) o x ≠ some b := by
  intro o x hx hc
  obtain ⟨b0, k0, _, k2⟩ := (h.ok o x hx).lt
  rw [bl_ext e (by rw [bl_prot]; exact k0)] at hc; cases hc; exact k2 hb
 have blo' : ∀ o x, σ.get o = some x → ∀ c, bl ((G.withProt p).addOb σ.n (b, 0)) o x = some c → bl G o x = some c := by
  intro o x hx c hc
  obtain ⟨b0, k0, _, k2⟩ := (h.ok o x hx).lt
  rw [bl_ext e (by rw [bl_prot]; exact k0)] at hc; cases hc; exact k0
 refine ⟨?_, fun o y hy => Nat.lt_succ_of_lt (h.tk o y hy), fun o y hy => Nat.lt_succ_of_lt (h.lp o y hy), h.fr, fun k hk => h.prot k (hp k hk).1, ?_, ?_⟩
 · intro o y hy
   simp only [Gh.addOb] at hy
   split at hy
   · rename_i ho; cases hy; subst ho; exact ⟨by simp, lt_of_get hh⟩
   · have := h.ob o y hy; exact ⟨by simp; omega, this.2⟩
 · intro o y hy
   rw [St.get_push] at hy
   split at hy
   · rename_i ho; cases hy; subst ho
     refine ⟨b, 0, vals, by simp [Gh.addOb], RvL.ext e _ _ (RvL.prot _ _ hr), ?_, ⟨arr, t, hh, by rw [Nat.zero_add, ← hr.length]; exact hl⟩, hf, fun hk => (hp b hk).2 rfl⟩
     intro j v hj
     simp only [Nat.zero_add, World.cell?, hh, Option.isSome_none, Bool.false_eq_true, if_false]
     exact hv j v hj
   · exact (h'.ok o y hy).ext e fun _ _ => ⟨rfl, rfl⟩
 · intro o o' y y' c h1 h2 h3 h4
   rw [St.get_push] at h1 h2
   split at h1 <;> split at h2
   · subst_vars; rfl
   · rename_i ho ho'
     cases h1; subst ho
     rw [blx] at h3; cases h3
     exact absurd h4 (blo o' y' h2)
   · rename_i ho ho'
     cases h2; subst ho'
     rw [blx] at h4; cases h4
     exact absurd h3 (blo o y h1)
   · exact h.sep o o' y y' c h1 h2 (blo' o y h1 c h3) (blo' o' y' h2 c h4)
theorem alloc_run {P : Program} {mu : TypeId → Bool} {o : Oper} {z : V} (h : cOp P mu o = some (.box (.c z))) : ∃ (arr : Array Value) (t : TypeId), (∀ G w, RvL G w z.cellsOf arr.toList) ∧
  ∀ (a : Act) (w : World), (execOp a.eval o).run P w = .ok (.value (.pointer (some ⟨w.heap.size, 0, none⟩))) (w.alloc (.cells arr t)) := by
 obtain ⟨dst, op, type, pos, after, guard⟩ := o
 cases op with
 | alloc e =>
  simp only [cOp, Option.map_eq_some_iff] at h
  obtain ⟨z', h1, h2⟩ := h
  cases h2
  obtain ⟨i, zv, k1, k2, k3⟩ := zeroOf_ok h1
  refine ⟨zv.cells, e, fun G w => (k3 G w).cells, fun a w => ?_⟩
  have : (Instr.alloc e true (.tuple #[])).run P w = .ok (.pointer (some ⟨w.heap.size, 0, none⟩)) (w.alloc (.cells zv.cells e)) := by
   simp only [Instr.alloc, Sem.run_bind, run_zero k1 k2, Result.andThen_ok]
   simp [newVar, newRow]
  simp [execOp, this]
 | box e x =>
  simp only [cOp, Option.map_eq_some_iff] at h
  obtain ⟨ax, h1, h2⟩ := h
  cases h2
  have key : ∀ u : Value, (∀ a : Act, a.eval x = u) → (∀ G w, Rv G w z u) → ∃ (arr : Array Value) (t : TypeId), (∀ G w, RvL G w z.cellsOf arr.toList) ∧
    ∀ (a : Act) (w : World), (execOp a.eval ⟨dst, .box e x, type, pos, after, guard⟩).run P w = .ok (.value (.pointer (some ⟨w.heap.size, 0, none⟩))) (w.alloc (.cells arr t)) := by
   intro u hu hz
   refine ⟨u.cells, e, fun G w => (hz G w).cells, fun a w => ?_⟩
   simp [execOp, hu a, Instr.box, newVar, newRow]
  cases x with
  | tmp t => cases h1
  | const v =>
   simp only [cOpd, Option.map_eq_some_iff] at h1
   obtain ⟨v', h1, h2⟩ := h1
   cases h2
   exact key v (fun _ => rfl) fun G w => constV_ok h1
  | func f =>
   cases h1
   refine key (.func (.func f) #[] #[]) (fun _ => rfl) fun G w => ?_
   simp only [Rv]
   exact ⟨[], [], rfl, RvL.nil, RvL.nil⟩
  | global g => cases h1
 | call c =>
  exfalso
  obtain ⟨callee, args, argTypes⟩ := c
  simp only [cOp] at h
  cases callee with
  | builtin b =>
   simp only [Option.bind_eq_some_iff] at h
   obtain ⟨aos, h1, h⟩ := h
   repeat' first | (split at h) | (cases h; done) | (simp only [Option.bind_eq_some_iff] at h; obtain ⟨_, _, h⟩ := h) | (simp only [Option.map_eq_some_iff] at h; obtain ⟨_, _, h⟩ := h) | (obtain ⟨_, _, h⟩ := h)
  | invoke r m => cases h
  | value f => cases f <;> simp only [Option.bind_eq_some_iff, Option.map_eq_some_iff] at h <;> (repeat' first | (cases h; done) | (obtain ⟨_, _, h⟩ := h) | (split at h))
 | makeMap t r =>
  exfalso
  cases r <;> simp only [cOp] at h <;> cases h
 | makeFunc fn fs cs =>
  exfalso
  cases fn <;> simp only [cOp] at h
  all_goals repeat' first | (cases h; done) | (split at h) | (simp only [Option.bind_eq_some_iff, Option.map_eq_some_iff] at h; obtain ⟨_, _, h⟩ := h) | (obtain ⟨_, _, h⟩ := h)
 | _ =>
  exfalso
  simp only [cOp] at h
  repeat' first | (cases h; done) | (split at h) | (simp only [Option.bind_eq_some_iff, Option.map_eq_some_iff] at h; obtain ⟨_, _, h⟩ := h) | (obtain ⟨_, _, h⟩ := h)
end
end Go.Ab
