/- Maps, made slices, 'clear', 'copy': the model's do as the abstract ones do. -/
import Derived.Test.YtehdjkikcfeiaaaGreatAb13
import Derived.Laws.Externs
import Derived.KernelRfl
namespace Go.Ab
open Go.RowKit
set_option linter.unusedVariables false
set_option linter.unusedSimpArgs false
section
variable {P : Program} {G : Gh} {σ σ' : St} {w : World} {v : V}
theorem EntsR.length : ∀ {es : List (V × V × Nat)} {l : List MapEntry}, EntsR G w es l → l.length = es.length
 | [], l, h => by simp only [EntsR] at h; subst h; rfl
 | (k, x, n) :: es, l, h => by
  obtain ⟨e, l', rfl, _, _, _, h4⟩ := h
  simp [EntsR.length h4]
theorem EntsR.get : ∀ {es : List (V × V × Nat)} {l : List MapEntry}, EntsR G w es l → ∀ {j : Nat} {k x : V} {n : Nat}, es[j]? = some (k, x, n) → ∃ e, l[j]? = some e ∧ Rv G w k e.key ∧ Rv G w x e.val ∧ e.born = n
 | [], l, h, j, k, x, n, hj => by simp at hj
 | (k0, x0, n0) :: es, l, h, j, k, x, n, hj => by
  obtain ⟨e, l', rfl, h1, h2, h3, h4⟩ := h
  cases j with
  | zero => simp at hj; obtain ⟨rfl, rfl, rfl⟩ := hj; exact ⟨e, rfl, h1, h2, h3⟩
  | succ j => simpa using h4.get (by simpa using hj)
theorem EntsR.snoc : ∀ {es : List (V × V × Nat)} {l : List MapEntry} {k x : V} {n : Nat} {e : MapEntry}, EntsR G w es l → Rv G w k e.key → Rv G w x e.val → e.born = n → EntsR G w (es ++ [(k, x, n)]) (l ++ [e])
 | [], l, k, x, n, e, h, h1, h2, h3 => by
  simp only [EntsR] at h; subst h
  exact ⟨e, [], rfl, h1, h2, h3, rfl⟩
 | (k0, x0, n0) :: es, l, k, x, n, e, h, h1, h2, h3 => by
  obtain ⟨e0, l', rfl, g1, g2, g3, g4⟩ := h
  exact ⟨e0, l' ++ [e], rfl, g1, g2, g3, EntsR.snoc g4 h1 h2 h3⟩
theorem EntsR.erase : ∀ {es : List (V × V × Nat)} {l : List MapEntry} (i : Nat), EntsR G w es l → EntsR G w (es.eraseIdx i) (l.eraseIdx i)
 | [], l, i, h => by simp only [EntsR] at h; subst h; simp [EntsR]
 | (k0, x0, n0) :: es, l, 0, h => by
  obtain ⟨e0, l', rfl, g1, g2, g3, g4⟩ := h
  simpa using g4
 | (k0, x0, n0) :: es, l, i + 1, h => by
  obtain ⟨e0, l', rfl, g1, g2, g3, g4⟩ := h
  simp only [List.eraseIdx_cons_succ]
  exact ⟨e0, l'.eraseIdx i, rfl, g1, g2, g3, EntsR.erase i g4⟩
theorem EntsR.modify {k x : V} {key val : Value} (hk : Rv G w k key) (hx : Rv G w x val) : ∀ {es : List (V × V × Nat)} {l : List MapEntry} (i : Nat), EntsR G w es l → EntsR G w (es.modify i fun e => (k, x, e.2.2)) (l.modify i fun e => { e with key, val })
 | [], l, i, h => by simp only [EntsR] at h; subst h; simp [EntsR]
 | (k0, x0, n0) :: es, l, 0, h => by
  obtain ⟨e0, l', rfl, g1, g2, g3, g4⟩ := h
  simp only [List.modify_zero_cons]
  exact ⟨_, l', rfl, hk, hx, g3, g4⟩
 | (k0, x0, n0) :: es, l, i + 1, h => by
  obtain ⟨e0, l', rfl, g1, g2, g3, g4⟩ := h
  simp only [List.modify_succ_cons]
  exact ⟨e0, _, rfl, g1, g2, g3, EntsR.modify hk hx i g4⟩
theorem now_ok (_hs : Rs G σ w) {kt : TypeId} {desc : TypeDesc} {q : EqT} {x y : V} {vx vy : Value} {b : Bool} (hd : P.underlying kt = some desc) (hq : eqT P 12 kt = some q) (hx : Rv G w x vx) (hy : Rv G w y vy) (h : aEqV σ q x y = some b) :
  Instr.sameNow desc vx vy = some b ∨ Instr.sameNow desc vx vy = none := by
 have hq : eqT P (11 + 1) kt = some q := hq
 unfold eqT at hq
 rw [hd] at hq
 cases desc with
 | int k =>
  simp only [Option.some.injEq] at hq; subst hq
  simp only [aEqV, aEqInt] at h
  split at h
  · split at h
    · rename_i hk
      obtain ⟨rfl, rfl⟩ := hk
      simp only [Option.some.injEq] at h; subst h
      rw [scv hx, scv hy]
      left; simp [Instr.sameNow, Sc.val]
    · cases h
  · cases h
 | bool =>
  simp only [Option.some.injEq] at hq; subst hq
  simp only [aEqV, aEqBool] at h
  split at h
  · simp only [Option.some.injEq] at h; subst h
    rw [scv hx, scv hy]
    left; simp [Instr.sameNow, Sc.val]
  · cases h
 | string =>
  simp only [Option.some.injEq] at hq; subst hq
  simp only [aEqV, aEqStr] at h
  split at h
  · simp only [Option.some.injEq] at h; subst h
    obtain ⟨s, rfl, rfl⟩ := str_of hx
    obtain ⟨u, rfl, rfl⟩ := str_of hy
    left; simp only [Instr.sameNow]; rw [beq_toListBytes, ByteArray.toList_eq, ByteArray.toList_eq, beq_dec]
  · cases h
 | _ => right; unfold Instr.sameNow; split <;> simp_all
def FR (G : Gh) (w : World) : Option (Nat × V × V) → Option (Nat × Value) → Prop
 | none, none => True
 | some (i, _, x), some (j, vx) => i = j ∧ Rv G w x vx
 | _, _ => False
theorem ask_ok (hs : Rs G σ w) {kt : TypeId} {q : EqT} {k : V} {vk : Value} (hq : eqT P 12 kt = some q) (hk : Rv G w k vk) : ∀ {es : List (V × V × Nat)} {l : List MapEntry} {i : Nat} {r : Option (Nat × V × V)}, EntsR G w es l → aFind σ q k es i = some r →
  ∃ r', (Instr.findAsking kt vk l i).run P w = .ok r' w ∧ FR G w r r'
 | [], l, i, r, h, hf => by
  simp only [EntsR] at h; subst h
  simp only [aFind, Option.some.injEq] at hf; subst hf
  exact ⟨none, by simp [Instr.findAsking], trivial⟩
 | (k0, x0, n0) :: es, l, i, r, h, hf => by
  obtain ⟨e, l', rfl, h1, h2, h3, h4⟩ := h
  simp only [aFind, Option.bind_eq_some_iff] at hf
  obtain ⟨b, hb, hf⟩ := hf
  have he : (Op.equal kt vk e.key).run P w = .ok b w := by
   have := eqV_ok (P := P) hs 12 kt q hq 9988 k k0 vk e.key b hk h1 hb
   exact this
  cases b with
  | true =>
   simp only [if_true, Option.some.injEq] at hf; subst hf
   exact ⟨some (i, e.val), by simp [Instr.findAsking, he], rfl, h2⟩
  | false =>
   simp only [Bool.false_eq_true, if_false] at hf
   obtain ⟨r', g1, g2⟩ := ask_ok hs hq hk h4 hf
   exact ⟨r', by simp [Instr.findAsking, he, g1], g2⟩
theorem nowFind_ok (hs : Rs G σ w) {kt : TypeId} {desc : TypeDesc} {q : EqT} {k : V} {vk : Value} (hd : P.underlying kt = some desc) (hq : eqT P 12 kt = some q) (hk : Rv G w k vk) : ∀ {es : List (V × V × Nat)} {l : List MapEntry} {i : Nat} {r : Option (Nat × V × V)}, EntsR G w es l → aFind σ q k es i = some r →
  Instr.findNow desc vk l i = none ∨ ∃ r', Instr.findNow desc vk l i = some r' ∧ FR G w r r'
 | [], l, i, r, h, hf => by
  simp only [EntsR] at h; subst h
  simp only [aFind, Option.some.injEq] at hf; subst hf
  exact .inr ⟨none, rfl, trivial⟩
 | (k0, x0, n0) :: es, l, i, r, h, hf => by
  obtain ⟨e, l', rfl, h1, h2, h3, h4⟩ := h
  simp only [aFind, Option.bind_eq_some_iff] at hf
  obtain ⟨b, hb, hf⟩ := hf
  simp only [Instr.findNow]
  rcases now_ok hs hd hq hk h1 hb with hn | hn
  · rw [hn]
    cases b with
    | true =>
     simp only [if_true, Option.some.injEq] at hf; subst hf
     exact .inr ⟨_, rfl, rfl, h2⟩
    | false =>
     simp only [Bool.false_eq_true, if_false] at hf
     exact nowFind_ok hs hd hq hk h4 hf
  · rw [hn]; exact .inl rfl
theorem find_ok (hs : Rs G σ w) {kt : TypeId} {desc : TypeDesc} {q : EqT} {k : V} {vk : Value} (hd : P.underlying kt = some desc) (hq : eqT P 12 kt = some q) (hk : Rv G w k vk) {es : List (V × V × Nat)} {l : List MapEntry} {r : Option (Nat × V × V)} (h : EntsR G w es l) (hf : aFind σ q k es 0 = some r) :
  ∃ r', (Instr.findKey kt vk l).run P w = .ok r' w ∧ FR G w r r' := by
 unfold Instr.findKey
 simp only [Sem.run_bind, run_underlying hd, Result.andThen_ok]
 rcases nowFind_ok hs hd hq hk h hf with hn | ⟨r', hn, hr⟩
 · rw [hn]; exact ask_ok hs hq hk h hf
 · rw [hn]; exact ⟨r', by simp, hr⟩
theorem find_at {q : EqT} {k : V} : ∀ {es : List (V × V × Nat)} {i j : Nat} {k' x : V}, aFind σ q k es i = some (some (j, k', x)) → i ≤ j ∧ ∃ n, es[j - i]? = some (k', x, n)
 | [], i, j, k', x, h => by simp [aFind] at h
 | (k0, x0, n0) :: es, i, j, k', x, h => by
  simp only [aFind, Option.bind_eq_some_iff] at h
  obtain ⟨b, _, h⟩ := h
  cases b with
  | true =>
   simp only [if_true, Option.some.injEq, Prod.mk.injEq] at h
   obtain ⟨rfl, rfl, rfl⟩ := h
   exact ⟨Nat.le_refl _, n0, by simp⟩
  | false =>
   simp only [Bool.false_eq_true, if_false] at h
   obtain ⟨h1, n, h2⟩ := find_at h
   refine ⟨by omega, n, ?_⟩
   rw [show j - i = (j - (i + 1)) + 1 by omega]
   simpa using h2
theorem check_flat {q : EqT} {t : TypeId} {d n : Nat} {e : Bool} {vk : Value} (hf : q.flat = true) (hq : eqT P d t = some q) : (Instr.checkKey e (n + 1) t vk).run P w = .ok () w := by
 have hu : P.underlying t = some .bool ∨ P.underlying t = some .string ∨ ∃ k, P.underlying t = some (.int k) := by
  cases d with
  | zero => simp [eqT] at hq
  | succ d =>
   unfold eqT at hq
   cases hd : P.underlying t with
   | none => rw [hd] at hq; cases hq
   | some desc =>
    rw [hd] at hq
    cases desc with
    | int k => exact .inr (.inr ⟨k, rfl⟩)
    | bool => exact .inl rfl
    | string => exact .inr (.inl rfl)
    | pointer e =>
     simp only at hq
     cases hi : P.info? e with
     | none => rw [hi] at hq; cases hq
     | some i => rw [hi] at hq; simp only at hq; split at hq <;> cases hq; simp [EqT.flat] at hf
    | slice e => cases hq; simp [EqT.flat] at hf
    | map a b => cases hq; simp [EqT.flat] at hf
    | func a b c => cases hq; simp [EqT.flat] at hf
    | struct fs =>
     simp only at hq
     split at hq
     · cases hq
     · rw [Option.map_eq_some_iff] at hq; obtain ⟨_, _, rfl⟩ := hq; simp [EqT.flat] at hf
    | array n e =>
     simp only at hq
     cases hi : P.info? e with
     | none => rw [hi] at hq; cases hq
     | some i =>
      rw [hi] at hq
      simp only [Option.bind_eq_some_iff, Option.map_eq_some_iff] at hq
      obtain ⟨_, _, _, _, rfl⟩ := hq; simp [EqT.flat] at hf
    | _ => cases hq
 unfold Instr.checkKey
 rcases hu with h | h | ⟨k, h⟩ <;> simp only [Sem.run_bind, run_underlying h, Result.andThen_ok] <;> simp
theorem forIn_unit {α : Type} (f : α → PUnit → Sem (ForInStep PUnit)) : ∀ (l : List α), (∀ x ∈ l, (f x ⟨⟩).run P w = .ok (.yield ⟨⟩) w) → (forIn l PUnit.unit f : Sem PUnit).run P w = .ok ⟨⟩ w
 | [], _ => by simp
 | x :: l, h => by
  rw [List.forIn_cons]
  simp only [Sem.run_bind, h x (by simp), Result.andThen_ok]
  exact forIn_unit f l fun y hy => h y (by simp [hy])
theorem fs_at {σ : St} {xs ys : List V} : ∀ {fs : List (Nat × Option Nat × EqT)} {r : Bool}, aEqFs σ fs xs ys = some r → ∀ f ∈ fs, ∃ a, aPart xs f.1 f.2.1 = some a
 | [], r, h, f, hf => by simp at hf
 | (off, n, e) :: fs, r, h, f, hf => by
  simp only [aEqFs, Option.bind_eq_some_iff, Option.map_eq_some_iff] at h
  obtain ⟨a, h1, b, _, _, _, _, h2, _⟩ := h
  rcases List.mem_cons.1 hf with rfl | hf
  · exact ⟨a, h1⟩
  · exact fs_at h2 f hf
theorem mapM_at' {α β : Type} {f : α → Option β} : ∀ {l : List α} {r : List β}, l.mapM f = some r → ∀ a ∈ l, ∃ b ∈ r, f a = some b
 | [], r, h, a, ha => by simp at ha
 | x :: xs, r, h, a, ha => by
  simp only [List.mapM_cons, Option.bind_eq_bind, Option.bind_eq_some_iff, Option.pure_def, Option.some.injEq] at h
  obtain ⟨b, h1, bs, h2, rfl⟩ := h
  rcases List.mem_cons.1 ha with rfl | ha
  · exact ⟨b, by simp, h1⟩
  · obtain ⟨c, hc, h3⟩ := mapM_at' h2 a ha
    exact ⟨c, by simp [hc], h3⟩
theorem check_ok {q : EqT} {t : TypeId} {e : Bool} {k : V} {vk : Value} (hkey : q.key = true) (hq : eqT P 12 t = some q) (hk : Rv G w k vk) (ha : aKey σ q k = true) : (Instr.checkKey e 10000 t vk).run P w = .ok () w := by
 cases q with
 | struct fs =>
  simp only [EqT.key, List.all_eq_true] at hkey
  have hq2 : eqT P (11 + 1) t = some (.struct fs) := hq
  unfold eqT at hq2
  cases hd : P.underlying t with
  | none => rw [hd] at hq2; cases hq2
  | some desc =>
   rw [hd] at hq2
   cases desc with
   | struct flds =>
    simp only at hq2
    split at hq2
    · cases hq2
    · simp only [Option.map_eq_some_iff, EqT.struct.injEq] at hq2
      obtain ⟨fs', hq2, rfl⟩ := hq2
      unfold aKey at ha
      rw [Option.isSome_iff_exists] at ha
      obtain ⟨r, hr⟩ := ha
      cases k with
      | agg xs =>
       simp only [aEqV] at hr
       simp only [Rv] at hk
       obtain ⟨vs, rfl, hvs⟩ := hk
       show (Instr.checkKey e (9999 + 1) t (.agg vs.toArray)).run P w = .ok () w
       unfold Instr.checkKey
       simp only [Sem.run_bind, run_underlying hd, Result.andThen_ok]
       rw [← Array.forIn_toList]
       refine Eq.trans (congrArg (fun r => Result.andThen r _) (forIn_unit _ flds.toList fun f hf => ?_)) (by simp)
       obtain ⟨b, hb, hfb⟩ := mapM_at' hq2 f hf
       split at hfb
       · cases hfb
       · rename_i hname
         simp only [Option.bind_eq_some_iff, Option.map_eq_some_iff] at hfb
         obtain ⟨n, hn, q', hq', rfl⟩ := hfb
         obtain ⟨a, hpa⟩ := fs_at hr _ hb
         obtain ⟨va, hva, _⟩ := Go.Ab.aPart_ok (P := P) (w := w) (tySize_ok hn) hvs hpa
         have hfl : q'.flat = true := hkey _ hb
         have hc := check_flat (P := P) (w := w) (n := 9998) (e := e) (vk := va) hfl hq'
         simp only [ne_eq, hname, not_false_eq_true, if_true, Sem.run_bind, hva, Result.andThen_ok, hc, Sem.run_pure]
      | _ => simp [aEqV] at hr
   | pointer p =>
    simp only at hq2
    cases hi : P.info? p with
    | none => rw [hi] at hq2; cases hq2
    | some i => rw [hi] at hq2; simp only at hq2; split at hq2 <;> cases hq2
   | array n p =>
    simp only at hq2
    cases hi : P.info? p with
    | none => rw [hi] at hq2; cases hq2
    | some i =>
     rw [hi] at hq2
     simp only [Option.bind_eq_some_iff, Option.map_eq_some_iff] at hq2
     obtain ⟨_, _, _, _, h⟩ := hq2; cases h
   | _ => cases hq2
 | _ => exact check_flat (n := 9999) (by simpa [EqT.key] using hkey) hq
theorem run_map {b : Nat} {ents : Array MapEntry} {c : Nat} (h : w.heap[b]? = some (.map ents c)) : (getObj b).run P w = .ok (.map ents c) w := by
 simp [getObj, Sem.run, h]
theorem run_setMap {b : Nat} {ents ents' : Array MapEntry} {c c' : Nat} (h : w.heap[b]? = some (.map ents c)) : (setObj b (.map ents' c')).run P w = .ok () { w with heap := w.heap.setIfInBounds b (.map ents' c') } := by
 simp [setObj, Sem.run, h]
theorem mkmap_ok {t : TypeId} (hs : Rs G σ w) (h : XOp.run σ .mkmap [] = some (v, σ')) : Does P (Instr.makeMap t none) G w σ' v := by
 simp only [XOp.run, Option.some.injEq, Prod.mk.injEq] at h
 obtain ⟨rfl, rfl⟩ := h
 obtain ⟨e1, e2⟩ := hs.newMap [] #[] 0 (by simp [EntsR])
 refine ⟨.map (some w.heap.size), _, _, ?_, e1, e2, ?_⟩
 · simp [Instr.makeMap]
 · simp only [Rv]; exact ⟨_, 0, by simp [Gh.addOb], rfl⟩
theorem lookup_ok {t kt et : TypeId} {q : EqT} {z m k : V} {vm vk : Value} {ok : Bool} (hs : Rs G σ w) (ht : P.underlying t = some (.map kt et)) (hd : ∃ desc, P.underlying kt = some desc) (hq : eqT P 12 kt = some q) (hkey : q.key = true) (hz : zeroOf P et = some z)
  (hm : Rv G w m vm) (hk : Rv G w k vk) (h : XOp.run σ (.lookup q z ok) [m, k] = some (v, σ')) : Does P (Instr.lookup t vm vk ok) G w σ' v := by
 obtain ⟨desc, hd⟩ := hd
 obtain ⟨i, zv, z1, z2, z3⟩ := zeroOf_ok hz
 simp only [XOp.run, Option.bind_eq_some_iff] at h
 obtain ⟨es, he, h⟩ := h
 split at h
 · rename_i ha
   simp only [Option.map_eq_some_iff, Prod.mk.injEq] at h
   obtain ⟨r, hf, hv, rfl⟩ := h
   have tail : ∀ ents : Array MapEntry, EntsR G w es ents.toList → Does P (do
     Instr.checkKey ents.isEmpty 10000 kt vk
     let (v, ok') ← match ← Instr.findKey kt vk ents.toList with
      | some (_, v) => pure (v, true)
      | none => pure (← zeroValue et, false)
     pure (if ok then .tuple #[v, .bool ok'] else v)) G w σ v := by
    intro ents hr
    obtain ⟨r', f1, f2⟩ := find_ok (P := P) hs hd hq hk hr hf
    have hc := check_ok (P := P) (e := ents.isEmpty) hkey hq hk ha
    match r, r', f2 with
    | none, none, _ =>
     simp only at hv
     refine Does.pure hs (v := if ok then .tuple #[zv, .bool false] else zv) ?_ ?_
     · simp only [Sem.run_bind, hc, f1, Result.andThen_ok, run_zero z1 z2, Sem.run_pure]
     · subst hv
       cases ok
       · exact z3 G w
       · simp only [if_true, Rv]; exact ⟨[zv, .bool false], rfl, RvL.cons (z3 G w) (RvL.one Rv.bool)⟩
    | some (a, b, x), some (j, vx), ⟨_, hx⟩ =>
     simp only at hv
     refine Does.pure hs (v := if ok then .tuple #[vx, .bool true] else vx) ?_ ?_
     · simp only [Sem.run_bind, hc, f1, Result.andThen_ok, Sem.run_pure]
     · subst hv
       cases ok
       · exact hx
       · simp only [if_true, Rv]; exact ⟨[vx, .bool true], rfl, RvL.cons hx (RvL.one Rv.bool)⟩
   unfold aEnts at he
   split at he
   · cases he
     have := scv hm; subst this
     have := tail #[] (by simp [EntsR])
     obtain ⟨v', w', G', g1, g2⟩ := this
     refine ⟨v', w', G', ?_, g2⟩
     rw [← g1]
     simp only [Instr.lookup, Sem.run_bind, run_underlying ht, Result.andThen_ok, Sc.val, Sem.run_pure]
     rfl
   · rename_i o
     split at he
     · rename_i es' c ho
       cases he
       obtain ⟨b, s, ents, k1, k2, k3, k4, k5⟩ := hs.ok _ _ ho
       simp only [Rv] at hm
       obtain ⟨b', s', h1, rfl⟩ := hm
       rw [k1] at h1; cases h1
       obtain ⟨v', w', G', g1, g2⟩ := tail ents k3
       refine ⟨v', w', G', ?_, g2⟩
       rw [← g1]
       simp only [Instr.lookup, Sem.run_bind, run_underlying ht, Result.andThen_ok, run_map k2, Sem.run_pure]
       rfl
     · cases he
   · cases he
 · cases h
theorem mapAt {o : Nat} {es : List (V × V × Nat)} {c : Nat} {vm : Value} (hs : Rs G σ w) (hm : Rv G w (.mp o) vm) (ho : σ.get o = some (.map es c)) : ∃ b s ents, vm = .map (some b) ∧ G.ob o = some (b, s) ∧ w.heap[b]? = some (.map ents c) ∧ EntsR G w es ents.toList := by
 obtain ⟨b, s, ents, k1, k2, k3, k4, k5⟩ := hs.ok _ _ ho
 simp only [Rv] at hm
 obtain ⟨b', s', h1, rfl⟩ := hm
 rw [k1] at h1; cases h1
 exact ⟨b, s, ents, rfl, k1, k2, k3⟩
theorem mapUpd_ok {t kt et : TypeId} {q : EqT} {m k x : V} {vm vk vx : Value} (hs : Rs G σ w) (ht : P.underlying t = some (.map kt et)) (hd : ∃ desc, P.underlying kt = some desc) (hq : eqT P 12 kt = some q) (hkey : q.key = true)
  (hm : Rv G w m vm) (hk : Rv G w k vk) (hx : Rv G w x vx) (h : XOp.run σ (.mapUpd q) [m, k, x] = some (v, σ')) : v = .undef ∧ ∃ w', (Instr.mapUpdate t vm vk vx).run P w = .ok () w' ∧ Rs G σ' w' ∧ Ext G w G w' := by
 obtain ⟨desc, hd⟩ := hd
 simp only [XOp.run] at h
 split at h
 · rename_i o
   split at h
   · rename_i es c ho
     obtain ⟨b, s, ents, rfl, k1, k2, k3⟩ := mapAt hs hm ho
     split at h
     · rename_i ha
       rw [Option.bind_eq_some_iff] at h
       obtain ⟨r, hf, h⟩ := h
       obtain ⟨r', f1, f2⟩ := find_ok (P := P) hs hd hq hk k3 hf
       have hc := check_ok (P := P) (e := false) hkey hq hk ha
       match r, r', f2, h with
       | none, none, _, h =>
        simp only [Option.some.injEq, Prod.mk.injEq] at h
        obtain ⟨rfl, rfl⟩ := h
        obtain ⟨g1, g2⟩ := hs.writeMap (es' := es ++ [(k, x, c)]) (c' := c + 1) (ents' := ents.push { key := vk, val := vx, born := c }) ho k1 rfl (by
         rw [Array.toList_push]; exact k3.snoc hk hx rfl)
        refine ⟨rfl, _, ?_, g1, g2⟩
        simp only [Instr.mapUpdate, Sem.run_bind, run_underlying ht, Result.andThen_ok, run_map k2, hc, f1, run_setMap k2]
       | some (i, k', x'), some (j, vx'), ⟨hij, _⟩, h =>
        subst hij
        simp only at h
        split at h
        · rename_i hp
          simp only [Bool.and_eq_true, decide_eq_true_eq] at hp
          obtain ⟨rfl, hpl⟩ := hp
          simp only [Option.some.injEq, Prod.mk.injEq] at h
          obtain ⟨rfl, rfl⟩ := h
          obtain ⟨_, n, hat⟩ := find_at hf
          obtain ⟨e, he, hek, _, _⟩ := k3.get hat
          have hkk : e.key = vk := rv_plain hpl hek hk
          have hget : (ents[i]?).map (·.key) = some vk := by
           rw [Array.getElem?_toList] at he
           rw [Nat.sub_zero] at he
           rw [he]; simp [hkk]
          obtain ⟨g1, g2⟩ := hs.writeMap (es' := es.modify i fun e => (k', x, e.2.2)) (c' := c) (ents' := ents.modify i fun e => { e with key := vk, val := vx }) ho k1 rfl (by
           rw [Array.toList_modify]; exact k3.modify hk hx i)
          refine ⟨rfl, _, ?_, g1, g2⟩
          have hst := stays_ok (P := P) hpl hk
          simp only [Instr.mapUpdate, Sem.run_bind, run_underlying ht, Result.andThen_ok, run_map k2, hc, f1, hget, Option.getD_some, hst, run_setMap k2]
        · cases h
     · cases h
   · cases h
 · cases h
theorem mapDel_ok {t kt et ty : TypeId} {q : EqT} {m k : V} {vm vk : Value} (hs : Rs G σ w) (ht : P.underlying t = some (.map kt et)) (hd : ∃ desc, P.underlying kt = some desc) (hq : eqT P 12 kt = some q) (hkey : q.key = true)
  (hm : Rv G w m vm) (hk : Rv G w k vk) (h : XOp.run σ (.mapDel q) [m, k] = some (v, σ')) {ts : List TypeId} : Does P (Builtin.delete_ (t :: ts).toArray ty #[vm, vk]) G w σ' v := by
 obtain ⟨desc, hd⟩ := hd
 have hu : Rv G w (.tup []) (.tuple #[]) := by simp only [Rv]; exact ⟨[], rfl, RvL.nil⟩
 simp only [XOp.run] at h
 split at h
 · split at h
   · rename_i ha
     cases h
     have := scv hm; subst this
     have hc := check_ok (P := P) (e := true) hkey hq hk ha
     exact Does.pure hs (by simp [Builtin.delete_, run_underlying ht, Sc.val, hc]) hu
   · cases h
 · rename_i o
   split at h
   · rename_i es c ho
     obtain ⟨b, s, ents, rfl, k1, k2, k3⟩ := mapAt hs hm ho
     split at h
     · rename_i ha
       rw [Option.map_eq_some_iff] at h
       obtain ⟨r, hf, h⟩ := h
       obtain ⟨r', f1, f2⟩ := find_ok (P := P) hs hd hq hk k3 hf
       have hc := check_ok (P := P) (e := ents.isEmpty) hkey hq hk ha
       match r, r', f2, h with
       | none, none, _, h =>
        simp only [Prod.mk.injEq] at h
        obtain ⟨rfl, rfl⟩ := h
        obtain ⟨g1, g2⟩ := hs.writeMap (es' := es) (c' := c) (ents' := ents) ho k1 rfl k3
        refine ⟨.tuple #[], _, G, ?_, g1, g2, by simp only [Rv]; exact ⟨[], rfl, RvL.nil⟩⟩
        simp only [Builtin.delete_, List.getElem?_toArray, List.getElem?_cons_zero, List.getElem?_cons_succ, Sem.run_bind, run_underlying ht, Result.andThen_ok, run_map k2, hc, f1, run_setMap k2, Sem.run_pure]
       | some (i, k', x'), some (j, vx'), ⟨hij, _⟩, h =>
        subst hij
        simp only [Prod.mk.injEq] at h
        obtain ⟨rfl, rfl⟩ := h
        obtain ⟨g1, g2⟩ := hs.writeMap (es' := es.eraseIdx i) (c' := c) (ents' := ents.eraseIdxIfInBounds i) ho k1 rfl (by
         rw [Array.toList_eraseIdxIfInBounds]; exact k3.erase i)
        refine ⟨.tuple #[], _, G, ?_, g1, g2, by simp only [Rv]; exact ⟨[], rfl, RvL.nil⟩⟩
        simp only [Builtin.delete_, List.getElem?_toArray, List.getElem?_cons_zero, List.getElem?_cons_succ, Sem.run_bind, run_underlying ht, Result.andThen_ok, run_map k2, hc, f1, run_setMap k2, Sem.run_pure]
     · cases h
   · cases h
 · cases h
theorem mapLen_ok {t kt et ty : TypeId} {m : V} {vm : Value} (hs : Rs G σ w) (ht : P.underlying t = some (.map kt et)) (hm : Rv G w m vm) (h : XOp.run σ .mapLen [m] = some (v, σ')) : Does P (Builtin.len_ #[t] ty #[vm]) G w σ' v := by
 simp only [XOp.run, Option.map_eq_some_iff, Prod.mk.injEq] at h
 obtain ⟨es, he, rfl, rfl⟩ := h
 unfold aEnts at he
 split at he
 · cases he
   have := scv hm; subst this
   exact Does.pure hs (by simp [Builtin.len_, run_underlying ht, Sc.val, goInt]) Rv.int
 · rename_i o
   split at he
   · rename_i es' c ho
     cases he
     obtain ⟨b, s, ents, rfl, k1, k2, k3⟩ := mapAt hs hm ho
     have hl := k3.length
     simp only [Array.length_toList] at hl
     refine Does.pure hs (v := .int .i64 ents.size) (by simp [Builtin.len_, run_underlying ht, run_map k2, goInt]) (by rw [hl]; exact Rv.int)
   · cases he
 · cases he
theorem mkslice_ok {mu : Bool} {t e : TypeId} {i : TypeInfo} {z l c : V} {vl vc : Value} (hs : Rs G σ w) (ht : P.underlying t = some (.slice e)) (hi : P.info? e = some i) (hz : zeroOf P e = some z) (hl : Rv G w l vl) (hc : Rv G w c vc)
  (h : XOp.run σ (.mkslice mu i.size i.bytes z.cellsOf) [l, c] = some (v, σ')) : Does P (Instr.makeSlice t vl vc) G w σ' v := by
 obtain ⟨i', zv, z1, z2, z3⟩ := zeroOf_ok hz
 rw [hi] at z1; cases z1
 simp only [XOp.run] at h
 split at h
 · rename_i kl l' kc c'
   rw [scv hl, scv hc]
   split at h
   · rename_i hcond
     obtain ⟨h0, h1, h2, h3, h4, h5⟩ := hcond
     have hzl : zv.cells.size = i.size := by
      have := ((z3 G w).cells).length
      simpa [h5] using this
     have hrun := run_makeSlice (P := P) (w := w) t e i zv ht hi z2 kl kc l' c' h0 h1 h2 h3 (by omega)
     have hcells : (madeCells zv.cells (c'.toNat * i.size)).toList = (List.replicate c'.toNat zv.cells.toList).flatten := by
      have e1 : zv.cells.toList.toArray = zv.cells := by simp
      have := range_flat zv.cells.toList c'.toNat
      rw [e1] at this
      have e2 : zv.cells.toList.length = zv.cells.size := by simp
      rw [e2, hzl] at this
      simp only [madeCells, hzl]
      exact this
     have hrow : RvL G w (zeros z.cellsOf c'.toNat) (madeCells zv.cells (c'.toNat * i.size)).toList := by
      rw [hcells]; exact ((z3 G w).cells).flat c'.toNat
     have hzn : (zeros z.cellsOf c'.toNat).length = c'.toNat * i.size := by rw [zeros, flat_length, h5]
     split at h
     · simp only [Option.some.injEq, Prod.mk.injEq] at h
       obtain ⟨rfl, rfl⟩ := h
       obtain ⟨e1, e2⟩ := hs.newCells (zeros z.cellsOf c'.toNat) _ hrow (madeCells zv.cells (c'.toNat * i.size)) e (fun j v hj => by simpa using hj) (by simp)
       refine ⟨_, _, _, hrun, e1, e2, ?_⟩
       simp only [Rv]
       exact ⟨w.heap.size, 0, c'.toNat, by simp [Gh.addOb], rfl, by omega, rfl⟩
     · split at h
       · rename_i hlc
         subst hlc
         simp only [Option.some.injEq, Prod.mk.injEq] at h
         obtain ⟨rfl, rfl⟩ := h
         obtain ⟨e1, e2⟩ := hs.newRow (madeCells zv.cells (l'.toNat * i.size)) e (madeCells zv.cells (l'.toNat * i.size)).toList.length
         refine ⟨_, _, _, hrun, e1, e2, ?_⟩
         simp only [Rv]
         exact ⟨w.heap.size, 0, l'.toNat, _, rfl, hzn, Nat.le_refl _, row_new w G _ e _ (fun j v hj => by simpa using hj), RvL.ext e2 _ _ hrow, rfl⟩
       · cases h
   · cases h
 · cases h
theorem zeroCells_eq (z : Array Value) (n : Nat) : (Builtin.zeroCells z n).toList = (List.replicate n z.toList).flatten := by
 have e1 : z.toList.toArray = z := by simp
 have := range_flat z.toList n
 rw [e1] at this
 have e2 : z.toList.length = z.size := by simp
 rw [e2] at this
 exact this
theorem clear_ok {t e ty : TypeId} {i : TypeInfo} {z x : V} {vx : Value} (hs : Rs G σ w) (ht : P.underlying t = some (.slice e)) (hi : P.info? e = some i) (hz : zeroOf P e = some z) (hx : Rv G w x vx)
  (h : XOp.run σ (.clear i.size z.cellsOf) [x] = some (v, σ')) : Does P (Builtin.clear_ #[t] ty #[vx]) G w σ' v := by
 obtain ⟨i', zv, z1, z2, z3⟩ := zeroOf_ok hz
 rw [hi] at z1; cases z1
 have hu : Rv G w (.tup []) (.tuple #[]) := by simp only [Rv]; exact ⟨[], rfl, RvL.nil⟩
 simp only [XOp.run] at h
 split at h
 · cases h
   have := scv hx; subst this
   exact Does.pure hs (by simp [Builtin.clear_, run_underlying ht, Sc.val]) hu
 · cases h
   have := scv hx; subst this
   exact Does.pure hs (by simp [Builtin.clear_, run_underlying ht, Sc.val]) hu
 · cases h
   simp only [Rv] at hx; obtain ⟨b, s, cap, _, rfl, _⟩ := hx
   exact Does.pure hs (by simp [Builtin.clear_, run_underlying ht]) hu
 · cases h
   simp only [Rv] at hx; obtain ⟨b, s, cap, _, rfl, _⟩ := hx
   exact Does.pure hs (by simp [Builtin.clear_, run_underlying ht]) hu
 · rename_i o off sz len lim
   split at h
   · rename_i cs ho
     split at h
     · rename_i hc
       obtain ⟨rfl, c2, c3, c4⟩ := hc
       simp only [Option.some.injEq, Prod.mk.injEq] at h
       obtain ⟨rfl, rfl⟩ := h
       simp only [Rv] at hx
       obtain ⟨b, s, cap, h1, rfl, _⟩ := hx
       obtain ⟨b', s', vals, k1, k2, k3, k4, k5, k6⟩ := hs.ok o _ ho
       rw [h1] at k1; cases k1
       have hrow : RvL G w (zeros z.cellsOf (len + 1)) (Builtin.zeroCells zv.cells (len + 1)).toList := by
        rw [zeroCells_eq]; exact ((z3 G w).cells).flat (len + 1)
       have hzn : (zeros z.cellsOf (len + 1)).length = (len + 1) * i.size := by rw [zeros, flat_length, c2]
       have hl := hrow.length
       have hl2 := k2.length
       have hone : (zeros z.cellsOf (len + 1)).all V.oneCell = true := by
        simp only [zeros, List.all_eq_true, List.mem_flatten, List.mem_replicate]
        rintro y ⟨l, ⟨_, rfl⟩, hy⟩
        exact List.all_eq_true.1 c4 y hy
       have hst := run_storeFree (P := P) (o := s + off) k4.free (Builtin.zeroCells zv.cells (len + 1)).toList (by omega) (hrow.oneCell hone)
       obtain ⟨e1, e2⟩ := hs.write (cs' := splice cs off (zeros z.cellsOf (len + 1))) (vals' := vals.take off ++ (Builtin.zeroCells zv.cells (len + 1)).toList ++ vals.drop (off + (Builtin.zeroCells zv.cells (len + 1)).toList.length)) ho h1
        (Upd.setCells b (Builtin.zeroCells zv.cells (len + 1)).toList (s + off) w) (by unfold splice; rw [hl]; exact ((k2.take off).append hrow).append (k2.drop _)) (splice_length (by omega)) (k3.setCells k4.free (by omega) (by omega))
       refine ⟨.tuple #[], _, G, ?_, e1, e2, by simp only [Rv]; exact ⟨[], rfl, RvL.nil⟩⟩
       simp [Builtin.clear_, run_underlying ht, run_zero hi z2, hst]
     · cases h
   · cases h
 · cases h
theorem firstCells_take {size n m b s len cap : Nat} {vals : List Value} (hl : vals.length = n * size) (hm : m ≤ n) (h : At w b s vals) :
  (Builtin.firstCells size m (.slice (some ⟨b, s, none⟩) len cap)).run P w = .ok (vals.take (m * size)).toArray w := by
 have hle : m * size ≤ n * size := Nat.mul_le_mul_right _ hm
 refine firstCells_at (by rw [List.length_take]; omega) ?_
 intro j v hj
 rw [List.getElem?_take] at hj
 split at hj
 · exact h j v hj
 · cases hj
theorem copy_ok {t e ty : TypeId} {i : TypeInfo} {x y : V} {vx vy : Value} (hs : Rs G σ w) (ht : P.underlying t = some (.slice e)) (hi : P.info? e = some i) (hx : Rv G w x vx) (hy : Rv G w y vy)
  (h : XOp.run σ (.copy i.size) [x, y] = some (v, σ')) {ts : List TypeId} : Does P (Builtin.copy_ (t :: ts).toArray ty #[vx, vy]) G w σ' v := by
 simp only [XOp.run] at h
 rw [Option.bind_eq_some_iff] at h
 obtain ⟨⟨m, news⟩, hsrc, h⟩ := h
 simp only at h
 have hsz : (sizeOf e).run P w = .ok i.size w := by simp [sizeOf, typeInfo, hi]
 have hlen : (Builtin.lenOf vy).run P w = .ok m w := by
  obtain ⟨_, h1, _⟩ := src_ok (P := P) hs hy hsrc
  exact h1.len
 -- what is read
 have src : ∀ k, k ≤ m → ∃ vn : List Value, (Builtin.firstCells i.size k vy).run P w = .ok vn.toArray w ∧ RvL G w (news.take (k * i.size)) vn := by
  intro k hk
  unfold aSrc at hsrc
  split at hsrc
  · cases hsrc
    have := scv hy; subst this
    exact ⟨[], by simp [Builtin.firstCells, Sc.val], by simpa using RvL.nil⟩
  · rename_i c0
    cases hsrc
    have := scv hy; subst this
    have hk0 : k = 0 := by omega
    subst hk0
    exact ⟨[], run_firstCells_some w i.size 0 c0 0 0 [] (by simp) (fun j v hj => by simp at hj), by simpa using RvL.nil⟩
  · split at hsrc
    · rename_i own s n cells hs'
      subst hs'; cases hsrc
      simp only [Rv] at hy
      obtain ⟨b, s', cap, vals, rfl, h2, h3, h4, h5, h6⟩ := hy
      have hl : vals.length = m * i.size := by rw [h5.length, h2]
      exact ⟨_, firstCells_take hl hk h4.2, h5.take _⟩
    · cases hsrc
  · rename_i o off s n lim
    split at hsrc
    · rename_i cs ho
      split at hsrc
      · rename_i hc
        obtain ⟨rfl, hc⟩ := hc
        cases hsrc
        simp only [Rv] at hy
        obtain ⟨b, s', cap, h1, rfl, h3, h4⟩ := hy
        obtain ⟨b', s'', vals, k1, k2, k3, _⟩ := hs.ok o _ ho
        rw [h1] at k1; cases k1
        have hvl := k2.length
        have hl : ((vals.drop off).take (m * i.size)).length = m * i.size := by rw [List.length_take, List.length_drop]; omega
        exact ⟨_, firstCells_take hl hk (take_drop_at k3), ((k2.drop _).take _).take _⟩
      · cases hsrc
    · cases hsrc
  · rename_i l
    split at hsrc
    · rename_i hsz1
      cases hsrc
      obtain ⟨s, rfl, rfl⟩ := str_of hy
      refine ⟨(s.data.toList.map fun b => Value.int .u8 b.toNat).take k, ?_, by rw [hsz1, Nat.mul_one]; exact (RvL.bytes _).take k⟩
      have e2 : ((s.data.toList.map fun b => Value.int .u8 (b.toNat : Int)).take k).toArray = (s.extract 0 k).data.map fun b => Value.int .u8 (b.toNat : Int) := by
       apply Array.ext'
       simp [ByteArray.data_extract, List.map_take]
      simp only [Builtin.firstCells, e2]
      rfl
    · cases hsrc
  · cases hsrc
 split at h
 · cases h
   have := scv hx; subst this
   obtain ⟨vn, g1, g2⟩ := src 0 (Nat.zero_le _)
   refine Does.pure hs (v := .int .i64 0) ?_ Rv.int
   simp [Builtin.copy_, run_underlying ht, Sc.val, hlen, hsz, g1, goInt]
 · cases h
   have := scv hx; subst this
   obtain ⟨vn, g1, g2⟩ := src 0 (Nat.zero_le _)
   have hvn : vn = [] := by simpa [RvL] using g2
   subst hvn
   refine Does.pure hs (v := .int .i64 0) ?_ Rv.int
   simp [Builtin.copy_, run_underlying ht, Sc.val, hlen, hsz, g1, goInt]
   rfl
 · cases h
   simp only [Rv] at hx; obtain ⟨b, s, cap, _, rfl, _⟩ := hx
   obtain ⟨vn, g1, g2⟩ := src 0 (Nat.zero_le _)
   have hvn : vn = [] := by simpa [RvL] using g2
   subst hvn
   refine Does.pure hs (v := .int .i64 0) ?_ Rv.int
   simp [Builtin.copy_, run_underlying ht, hlen, hsz, g1, goInt]
   rfl
 · rename_i o off sz len lim
   split at h
   · rename_i cs ho
     split at h
     · rename_i hc
       obtain ⟨rfl, c2, c3, c4⟩ := hc
       simp only [Option.some.injEq, Prod.mk.injEq] at h
       obtain ⟨rfl, rfl⟩ := h
       simp only [Rv] at hx
       obtain ⟨b, s, cap, h1, rfl, _⟩ := hx
       obtain ⟨b', s', vals, k1, k2, k3, k4, k5, k6⟩ := hs.ok o _ ho
       rw [h1] at k1; cases k1
       obtain ⟨vn, g1, g2⟩ := src (Nat.min m len) (Nat.min_le_left _ _)
       have hl := g2.length
       have hl2 := k2.length
       have hst := run_storeFree (P := P) (o := s + off) k4.free vn (by omega) (g2.oneCell c4)
       obtain ⟨e1, e2⟩ := hs.write (cs' := splice cs off (news.take (Nat.min m len * i.size))) (vals' := vals.take off ++ vn ++ vals.drop (off + vn.length)) ho h1
        (Upd.setCells b vn (s + off) w) (by unfold splice; rw [hl]; exact ((k2.take off).append g2).append (k2.drop _)) (splice_length (by omega)) (k3.setCells k4.free (by omega) (by omega))
       refine ⟨.int .i64 (Nat.min m len : Nat), _, G, ?_, e1, e2, Rv.int⟩
       simp [Builtin.copy_, run_underlying ht, hlen, hsz, g1, hst, goInt]
     · cases h
   · cases h
 · cases h
theorem notIfc_ok {t : TypeId} (h : notIfc P t = true) : ∃ d, P.underlying t = some d ∧ ∀ ms, d ≠ .interface ms := by
 unfold notIfc at h
 cases hd : P.underlying t with
 | none => rw [hd] at h; cases h
 | some d =>
  rw [hd] at h
  refine ⟨d, rfl, ?_⟩
  rintro ms rfl
  cases h
theorem mkifc_ok {t : TypeId} {x : V} {vx : Value} (hs : Rs G σ w) (ht : notIfc P t = true) (hx : Rv G w x vx) (h : XOp.run σ (.mkifc t) [x] = some (v, σ')) : Does P (Instr.makeInterface t vx) G w σ' v := by
 obtain ⟨d, hd, hn⟩ := notIfc_ok ht
 simp only [XOp.run, Option.some.injEq, Prod.mk.injEq] at h
 obtain ⟨rfl, rfl⟩ := h
 refine Does.pure hs (v := .iface t vx) ?_ (by simp only [Rv]; exact ⟨vx, rfl, hx⟩)
 simp only [Instr.makeInterface, Sem.run_bind, run_underlying hd, Result.andThen_ok]
 cases d <;> first | rfl | exact absurd rfl (hn _)
theorem assert_ok {t xt : TypeId} {x : V} {vx : Value} {ok : Bool} (hs : Rs G σ w) (ht : notIfc P t = true) (hx : Rv G w x vx) (h : XOp.run σ (.assert t ok) [x] = some (v, σ')) : Does P (Instr.typeAssert vx xt t ok) G w σ' v := by
 obtain ⟨d, hd, hn⟩ := notIfc_ok ht
 simp only [XOp.run] at h
 split at h
 · rename_i t' y
   split at h
   · rename_i htt
     subst htt
     simp only [Option.some.injEq, Prod.mk.injEq] at h
     obtain ⟨rfl, rfl⟩ := h
     simp only [Rv] at hx
     obtain ⟨u, rfl, hu⟩ := hx
     refine Does.pure hs (v := if ok then .tuple #[u, .bool true] else u) ?_ ?_
     · simp only [Instr.typeAssert, Sem.run_bind, run_underlying hd, Result.andThen_ok]
       cases d <;> first | exact absurd rfl (hn _) | simp
     · cases ok
       · exact hu
       · simp only [if_true, Rv]; exact ⟨[u, .bool true], rfl, RvL.cons hu (RvL.one Rv.bool)⟩
   · cases h
 · cases h
theorem find_clone {fn : Func} (h : fn.name = "maps.clone") (ho : fn.origin = "maps.Clone" ∨ True) : Extern.find fn = some Extern.MapsClone.clone := by
 have g1 : Extern.allGenericRows.lookup "maps.clone" = none := by kernel_rfl
 have g2 : Extern.allTypedRows.lookup "maps.clone" = none := by kernel_rfl
 have g3 : Extern.allRows.lookup "maps.clone" = some Extern.MapsClone.clone := by kernel_rfl
 simp only [Extern.find, h, g1, g2, g3]
 rfl
theorem clone_ok {f : FuncId} {xs : List V} {vs : List Value} (hs : Rs G σ w) (hc : isClone P f = true) (hx : RvL G w xs vs) (h : XOp.run σ .cloneMap xs = some (v, σ')) :
  ∃ v' w' G', (callFunc f vs.toArray).run P w = .ok (.value v') w' ∧ Rs G' σ' w' ∧ Ext G w G' w' ∧ Rv G' w' v v' := by
 unfold isClone at hc
 cases hf : P.funcs[f]? with
 | none => rw [hf] at hc; cases hc
 | some fn =>
  rw [hf] at hc
  simp only [Bool.and_eq_true, beq_iff_eq] at hc
  obtain ⟨⟨hname, hbody⟩, horig⟩ := hc
  have hfind := find_clone hname (.inr trivial)
  have hnext : Extern.findNext fn = none := by
   have g1 : Extern.allNextRows.lookup "maps.clone" = none := by kernel_rfl
   have g2 : Extern.allNextRows.lookup "" = none := by kernel_rfl
   simp only [Extern.findNext, hname, horig, g1, g2]
   rfl
  unfold XOp.run at h
  split at h <;> simp only [reduceCtorEq] at *
  split at h
  · rename_i t o
    split at h
    · rename_i es c ho
      simp only [Option.some.injEq, Prod.mk.injEq] at h
      obtain ⟨rfl, rfl⟩ := h
      simp only [RvL] at hx
      obtain ⟨vx, vs', rfl, hvx, rfl⟩ := hx
      simp only [Rv] at hvx
      obtain ⟨y, rfl, b', s', hob, rfl⟩ := hvx
      obtain ⟨b, s, ents, k1, k2, k3, k4, k5⟩ := hs.ok _ _ ho
      rw [hob] at k1; cases k1
      obtain ⟨e1, e2⟩ := hs.newMap es ents c k3
      refine ⟨.iface t (.map (some w.heap.size)), _, _, ?_, e1, e2, ?_⟩
      · rw [run_callFunc_extern hf (by rw [hname]; decide) hbody hnext hfind]
        have e : Extern.MapsClone.clone #[.iface t (.map (some b'))] = (getObj b' >>= fun o => match o with
         | .map entries clock => (newObj (.map entries clock) >>= fun n => pure (.iface t (.map (some n))))
         | _ => stuck "maps.clone: a map expected") := rfl
        show (Sem.run P (Extern.MapsClone.clone #[.iface t (.map (some b'))]) w).andThen _ = _
        rw [e]
        simp [run_map k2]
      · simp only [Rv]; exact ⟨_, rfl, _, 0, by simp [Gh.addOb], rfl⟩
    · cases h
  · cases h
theorem sliceArr_ok {t e : TypeId} {n : Nat} {ei : TypeInfo} {x r : V} {vx : Value} {lo hi : Option V} {clo chi : Option Value} (hs : Rs G σ w) (ht : P.underlying t = some (.array n e)) (hi' : P.info? e = some ei)
  (ha : Rv G w x vx) (h1 : OptR G w lo clo) (h2 : OptR G w hi chi) (h : aSliceArr n ei.size x lo hi = some r) : Does P (Instr.sliceAt t vx clo chi none) G w σ r := by
 unfold aSliceArr at h
 split at h
 · rename_i o off
   rw [Option.map_eq_some_iff] at h
   obtain ⟨⟨l, h', m⟩, e1, hx⟩ := h
   simp only [Rv] at ha
   obtain ⟨b, s, k1, rfl⟩ := ha
   have h3 : OptR G w none none := rfl
   obtain ⟨e2, e3, e4, e5⟩ := bounds_ok (P := P) (cap := n) false h1 h2 h3 (Nat.le_refl _) e1
   have hm : m = none := by
    unfold aBounds at e1
    rw [Option.bind_eq_some_iff] at e1
    obtain ⟨_, _, e1⟩ := e1
    rw [Option.map_eq_some_iff] at e1
    obtain ⟨_, _, e1⟩ := e1
    cases e1; rfl
   subst hm
   simp only [Option.getD_none] at e2
   have hrun : (Instr.sliceAt t (.pointer (some ⟨b, s + off, none⟩)) clo chi none).run P w = .ok (.slice (some (if n = l then ⟨b, s + off, none⟩ else (⟨b, s + off, none⟩ : Addr).add (l * ei.size))) (h' - l) (n - l)) w := by
    simp only [Instr.sliceAt, Sem.run_bind, run_underlying ht, Result.andThen_ok]
    simp [Instr.sureAddr, e2, sizeOf, typeInfo, hi']
   refine Does.pure hs hrun ?_
   simp only at hx
   split at hx
   · rename_i hml
     subst hx
     rw [if_pos hml]
     simp only [Rv]
     exact ⟨b, s, 0, k1, by simp; omega, Nat.le_refl _, rfl⟩
   · rename_i hml
     subst hx
     rw [if_neg hml]
     simp only [add_none, Rv]
     exact ⟨b, s, n - l, k1, by rw [Nat.add_assoc], by omega, rfl⟩
 · cases h
end
end Go.Ab
