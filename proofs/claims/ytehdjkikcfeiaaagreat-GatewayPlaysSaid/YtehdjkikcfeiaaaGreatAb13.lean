/- Each operation of the model does what its abstract one does. -/
import Derived.Test.YtehdjkikcfeiaaaGreatAb12
namespace Go.Ab
open Go.RowKit
section
variable {P : Program} {G : Gh} {σ σ' : St} {w : World} {mu : TypeId → Bool} {call : CallF} {ρ : Env} {a : Act} {v : V}
theorem zeroOf_ok {t : TypeId} {z : V} (h : zeroOf P t = some z) : ∃ i zv, P.info? t = some i ∧ i.zero = some zv ∧ ∀ (G : Gh) (w : World), Rv G w z zv := by
 simp only [zeroOf, Option.bind_eq_some_iff] at h
 obtain ⟨i, h1, zv, h2, h3⟩ := h
 exact ⟨i, zv, h1, h2, fun G w => constV_ok h3⟩
theorem sizeOf_ok {t : TypeId} {n : Nat} (h : sizeOf' P t = some n) : ∃ i, P.info? t = some i ∧ i.size = n := by
 simp only [sizeOf', Option.map_eq_some_iff] at h
 exact h
theorem run_sizeOf {t : TypeId} {i : TypeInfo} (h : P.info? t = some i) : (sizeOf t).run P w = .ok i.size w := by simp [sizeOf, typeInfo, h]
theorem run_zero {t : TypeId} {i : TypeInfo} {z : Value} (h : P.info? t = some i) (hz : i.zero = some z) : (zeroValue t).run P w = .ok z w := by simp [zeroValue, typeInfo, h, hz]
theorem places_ok (w : World) : ∀ {fs : List Field} {pl : List (Nat × Nat)}, fieldPlaces P fs = some pl →
  (fs.mapM (fun f => (do pure (f.offset, ← sizeOf f.type) : Sem (Nat × Nat)))).run P w = .ok pl w
 | [], pl, h => by simp [fieldPlaces] at h; subst h; simp
 | f :: fs, pl, h => by
  simp only [fieldPlaces, List.mapM_cons, Option.bind_eq_bind, Option.bind_eq_some_iff, Option.pure_def, Option.some.injEq, Option.map_eq_some_iff] at h
  obtain ⟨q, ⟨n, h1, rfl⟩, pl', h2, rfl⟩ := h
  obtain ⟨i, h3, rfl⟩ := sizeOf_ok h1
  have ih := places_ok w h2
  rw [List.mapM_cons]
  simp only [Sem.run_bind, run_sizeOf h3, Result.andThen_ok, Sem.run_pure, ih]
theorem build_ok {t : TypeId} {z : V} {ps : Array (Nat × Operand)} {qs : List (Nat × Nat × AO)} {cs : List V} {place : Nat → Option (Nat × Nat)} (hs : Rs G σ w) (hr : RE G w ρ a.tmps) (hz : zeroOf P t = some z)
  (hq : cParts place ps.toList = some qs)
  (hplace : ((∃ fs pl, P.underlying t = some (.struct fs) ∧ fieldPlaces P fs.toList = some pl ∧ place = fun i => pl[i]?) ∨ (∃ len e i, P.underlying t = some (.array len e) ∧ P.info? e = some i ∧ place = fun k => some (k * i.size, i.size))))
  (hf : fillV z.cellsOf (qs.map fun p => (p.1, p.2.1, p.2.2.eval ρ)) = some cs) :
  Does P (Instr.build t (ps.map fun (i, x) => (i, a.eval x))) G w σ (.agg cs) := by
 obtain ⟨i, zv, h1, h2, h3⟩ := zeroOf_ok hz
 have hl : (ps.map fun (i, x) => (i, a.eval x)).toList = ps.toList.map fun p => (p.1, a.eval p.2) := by simp
 rcases hplace with ⟨fs, pl, k1, k2, rfl⟩ | ⟨len, e, ei, k1, k2, rfl⟩
 · have hp := parts_ok (place' := fun i => pl[i]?) hr (fun _ _ h => h) hq
   obtain ⟨rs, f1, f2⟩ := fill_ok hp (h3 G w).cells hf
   refine Does.pure hs (v := .agg rs) ?_ (by simp only [Rv]; exact ⟨rs.toList, by simp, f2⟩)
   have hpl := places_ok (P := P) w k2
   have hpl' : (fs.mapM (fun f => (do pure (f.offset, ← sizeOf f.type) : Sem (Nat × Nat)))).run P w = .ok pl.toArray w := by
    rw [Array.mapM_eq_mapM_toList]
    simp only [Sem.run_map, hpl, Result.andThen_ok]
   rw [← hl] at f1
   have f1' : Instr.fill (fun x => pl.toArray[x]?) zv.cells (ps.map fun (i, x) => (i, a.eval x)).toList = some rs := by simpa using f1
   simp only [Instr.build, Sem.run_bind, run_zero h1 h2, run_underlying k1, Result.andThen_ok, hpl']
   simp only [f1', Sem.run_pure]
 · have hp := parts_ok (place' := fun k => some (k * ei.size, ei.size)) hr (fun _ _ h => h) hq
   obtain ⟨rs, f1, f2⟩ := fill_ok hp (h3 G w).cells hf
   refine Does.pure hs (v := .agg rs) ?_ (by simp only [Rv]; exact ⟨rs.toList, by simp, f2⟩)
   rw [← hl] at f1
   simp only [Instr.build, Sem.run_bind, run_zero h1 h2, run_underlying k1, Result.andThen_ok, run_sizeOf k2]
   simp only [f1, Sem.run_pure]
theorem len_ok {x : V} {vx : Value} {t ty e : TypeId} (hs : Rs G σ w) (hx : Rv G w x vx) (ht : P.underlying t = some (.slice e)) (h : aLen x = some v) :
  Does P (Builtin.len_ #[t] ty #[vx]) G w σ v := by
 unfold aLen at h
 split at h
 · cases h
   have := scv hx; subst this
   exact Does.pure hs (by simp [Builtin.len_, run_underlying ht, Sc.val, goInt]) Rv.int
 · cases h
   have := scv hx; subst this
   exact Does.pure hs (by simp [Builtin.len_, run_underlying ht, Sc.val, goInt]) Rv.int
 · cases h
   simp only [Rv] at hx; obtain ⟨b, s, cap, _, rfl, _⟩ := hx
   exact Does.pure hs (by simp [Builtin.len_, run_underlying ht, goInt]) Rv.int
 · cases h
   simp only [Rv] at hx; obtain ⟨b, s, cap, _, rfl, _⟩ := hx
   exact Does.pure hs (by simp [Builtin.len_, run_underlying ht, goInt]) Rv.int
 · cases h
theorem lenStr_ok {x : V} {vx : Value} {t ty : TypeId} (hs : Rs G σ w) (hx : Rv G w x vx) (ht : P.underlying t = some .string) (h : aLenStr x = some v) :
  Does P (Builtin.len_ #[t] ty #[vx]) G w σ v := by
 unfold aLenStr at h
 split at h
 · cases h
   obtain ⟨s, rfl, rfl⟩ := str_of hx
   refine Does.pure hs ?_ (Rv.int (n := (s.data.toList.length : Int)))
   rw [← size_eq]
   simp [Builtin.len_, run_underlying ht, goInt]
 · cases h
theorem nilCheck_ok {x : V} {vx : Value} (hx : Rv G w x vx) (h : aNilCheck x = some v) : (∀ (o : Oper) (y : Operand), o.op = .nilCheck y → a.eval y = vx → (execOp a.eval o).run P w = .ok (.value vx) w) ∧ v = x := by
 unfold aNilCheck at h
 split at h
 · cases h
   simp only [Rv] at hx; obtain ⟨b, s, _, rfl⟩ := hx
   exact ⟨fun o y ho hy => by simp [execOp, ho, hy], rfl⟩
 · cases h
   simp only [Rv] at hx; obtain ⟨b, s, _, rfl, _⟩ := hx
   exact ⟨fun o y ho hy => by simp [execOp, ho, hy], rfl⟩
 · cases h
   simp only [Rv] at hx; obtain ⟨b, s, rfl, _⟩ := hx
   exact ⟨fun o y ho hy => by simp [execOp, ho, hy], rfl⟩
 · cases h
theorem Rv.nilI {x : V} (h : Rv G w x .nilIface) : x = .sc .nilI := by
 cases x with
 | sc a => have := scv h; cases a <;> simp [Sc.val] at this; rfl
 | str l => simp only [Rv] at h; obtain ⟨s, h, _⟩ := h; cases h
 | ptr o f => simp only [Rv] at h; obtain ⟨b, s, _, h⟩ := h; cases h
 | elt c f => simp only [Rv] at h; obtain ⟨b, s, _, h, _⟩ := h; cases h
 | vs o sz n c => simp only [Rv] at h; obtain ⟨b, s, _, _, h, _⟩ := h; cases h
 | os o f sz n l => simp only [Rv] at h; obtain ⟨b, s, _, _, h, _⟩ := h; cases h
 | mp o => simp only [Rv] at h; obtain ⟨b, s, _, h⟩ := h; cases h
 | yl o => simp only [Rv] at h; obtain ⟨b, s, _, h⟩ := h; cases h
 | fn f a c => simp only [Rv] at h; obtain ⟨b, s, h, _⟩ := h; cases h
 | ifc t y => simp only [Rv] at h; obtain ⟨y, h, _⟩ := h; cases h
 | agg c => simp only [Rv] at h; obtain ⟨y, h, _⟩ := h; cases h
 | tup c => simp only [Rv] at h; obtain ⟨y, h, _⟩ := h; cases h
theorem aEqV_nilI (σ : St) (q : EqT) (y : V) : aEqV σ q (.sc .nilI) y = none := by
 cases q <;> simp [aEqV, aEqInt, aEqBool, aEqStr, aPtrEq] <;> cases y <;> simp [aNilness, isSl, isMp, isFn]
theorem eqT_not {q : EqT} {t : TypeId} {d : Nat} (ht : isIntStr P t = false) (hq : eqT P d t = some q) : (∀ k, q ≠ .int k) ∧ q ≠ .str := by
 cases d with
 | zero => simp [eqT] at hq
 | succ d =>
  have nint : ∀ k, P.underlying t ≠ some (.int k) := by intro k hk; simp [isIntStr, hk] at ht
  have nstr : P.underlying t ≠ some .string := by intro hk; simp [isIntStr, hk] at ht
  refine ⟨?_, ?_⟩
  · rintro k rfl
    unfold eqT at hq
    split at hq
    · rename_i hk; exact nint _ hk
    all_goals first | cases hq | skip
    · split at hq
      · split at hq <;> cases hq
      · cases hq
    · split at hq
      · cases hq
      · rw [Option.map_eq_some_iff] at hq; obtain ⟨_, _, hq⟩ := hq; cases hq
    · split at hq
      · simp only [Option.bind_eq_some_iff, Option.map_eq_some_iff] at hq; obtain ⟨_, _, _, _, hq⟩ := hq; cases hq
      · cases hq
  · rintro rfl
    unfold eqT at hq
    split at hq
    all_goals first | cases hq | skip
    · rename_i hk; exact nstr hk
    · split at hq
      · split at hq <;> cases hq
      · cases hq
    · split at hq
      · cases hq
      · rw [Option.map_eq_some_iff] at hq; obtain ⟨_, _, hq⟩ := hq; cases hq
    · split at hq
      · simp only [Option.bind_eq_some_iff, Option.map_eq_some_iff] at hq; obtain ⟨_, _, _, _, hq⟩ := hq; cases hq
      · cases hq
def EqShape (t : TypeId) (vx vy : Value) : Prop := binOp .eql t vx vy = (Op.equal t vx vy >>= fun b => pure (.bool b)) ∧ binOp .neq t vx vy = (Op.equal t vx vy >>= fun b => pure (.bool (!b)))
theorem eq_shape {t : TypeId} {vx vy : Value} {ex ey : V} {q : EqT} {r : Bool} (h1 : ∀ k, q ≠ .int k) (h2 : q ≠ .str) (hx : Rv G w ex vx) (hy : Rv G w ey vy) (h : aEqV σ q ex ey = some r) : EqShape t vx vy := by
 cases q with
 | int k => exact absurd rfl (h1 k)
 | str => exact absurd rfl h2
 | bool =>
  simp only [aEqV, aEqBool] at h
  split at h
  · have := scv hx; have := scv hy; subst_vars; exact ⟨rfl, rfl⟩
  · cases h
 | ptr =>
  simp only [aEqV, aPtrEq] at h
  split at h
  · have := scv hx; have := scv hy; subst_vars; exact ⟨rfl, rfl⟩
  · have := scv hx; subst this; simp only [Rv] at hy; obtain ⟨b, s, _, rfl⟩ := hy; exact ⟨rfl, rfl⟩
  · have := scv hy; subst this; simp only [Rv] at hx; obtain ⟨b, s, _, rfl⟩ := hx; exact ⟨rfl, rfl⟩
  · have := scv hx; subst this; simp only [Rv] at hy; obtain ⟨b, s, _, rfl, _⟩ := hy; exact ⟨rfl, rfl⟩
  · have := scv hy; subst this; simp only [Rv] at hx; obtain ⟨b, s, _, rfl, _⟩ := hx; exact ⟨rfl, rfl⟩
  · simp only [Rv] at hx hy; obtain ⟨b, s, _, rfl⟩ := hx; obtain ⟨b, s, _, rfl⟩ := hy; exact ⟨rfl, rfl⟩
  · cases h
 | slice =>
  simp only [aEqV] at h
  rcases nilness_ok h with ⟨rfl, rfl, rfl⟩ | ⟨rfl, hf, rfl⟩ | ⟨rfl, hf, rfl⟩
  · have := scv hx; have := scv hy; subst_vars; exact ⟨rfl, rfl⟩
  · have := scv hx; obtain ⟨_, _, _, rfl⟩ := isSl_ok hf hy; subst_vars; exact ⟨rfl, rfl⟩
  · have := scv hy; obtain ⟨_, _, _, rfl⟩ := isSl_ok hf hx; subst_vars; exact ⟨rfl, rfl⟩
 | map =>
  simp only [aEqV] at h
  rcases nilness_ok h with ⟨rfl, rfl, rfl⟩ | ⟨rfl, hf, rfl⟩ | ⟨rfl, hf, rfl⟩
  · have := scv hx; have := scv hy; subst_vars; exact ⟨rfl, rfl⟩
  · have := scv hx; obtain ⟨_, rfl⟩ := isMp_ok hf hy; subst_vars; exact ⟨rfl, rfl⟩
  · have := scv hy; obtain ⟨_, rfl⟩ := isMp_ok hf hx; subst_vars; exact ⟨rfl, rfl⟩
 | func =>
  simp only [aEqV] at h
  rcases nilness_ok h with ⟨rfl, rfl, rfl⟩ | ⟨rfl, hf, rfl⟩ | ⟨rfl, hf, rfl⟩
  · have := scv hx; have := scv hy; subst_vars; exact ⟨rfl, rfl⟩
  · have := scv hx; obtain ⟨_, _, _, rfl⟩ := isFn_ok hf hy; subst_vars; exact ⟨rfl, rfl⟩
  · have := scv hy; obtain ⟨_, _, _, rfl⟩ := isFn_ok hf hx; subst_vars; exact ⟨rfl, rfl⟩
 | struct fs =>
  simp only [aEqV] at h
  split at h
  · simp only [Rv] at hx hy; obtain ⟨_, rfl, _⟩ := hx; obtain ⟨_, rfl, _⟩ := hy; exact ⟨rfl, rfl⟩
  · cases h
 | arr len sz n e =>
  simp only [aEqV] at h
  split at h
  · simp only [Rv] at hx hy; obtain ⟨_, rfl, _⟩ := hx; obtain ⟨_, rfl, _⟩ := hy; exact ⟨rfl, rfl⟩
  · cases h
theorem eq_ok {op : BinOp} {t : TypeId} {x y : Operand} {vx vy : Value} {ex ey : V} {q : EqT} {r : Bool} (hop : op = .eql ∨ op = .neq) (hg : P.eqGuardType P.depth t = false) (ht : isIntStr P t = false) (hq : eqT P 12 t = some q)
  (hs : Rs G σ w) (hx : Rv G w ex vx) (hy : Rv G w ey vy) (h : aEqV σ q ex ey = some r) :
  (do eqGuard op t x y vx vy; binOp op t vx vy : Sem Value).run P w = .ok (.bool (if op = .neq then !r else r)) w := by
 have hne : vx ≠ .nilIface := by
  rintro rfl
  rw [Rv.nilI hx, aEqV_nilI] at h; cases h
 have hgd : (eqGuard op t x y vx vy).run P w = .ok () w := by
  unfold eqGuard
  rw [if_neg (by rcases hop with rfl | rfl <;> simp)]
  split
  · exact absurd rfl hne
  · simp [hg]
  · simp
 have he := eqV_ok (P := P) hs 12 t q hq 9988 ex ey vx vy r hx hy h
 have heq : (Op.equal t vx vy).run P w = .ok r w := he
 obtain ⟨q1, q2⟩ := eqT_not ht hq
 obtain ⟨b1, b2⟩ := eq_shape (t := t) q1 q2 hx hy h
 rcases hop with rfl | rfl
 · simp only [Sem.run_bind, hgd, Result.andThen_ok, b1, heq, Sem.run_pure]
   simp
 · simp only [Sem.run_bind, hgd, Result.andThen_ok, b2, heq, Sem.run_pure]
   simp
end
end Go.Ab
