/- A region that draws its order, whatever the order. -/
import Derived.Test.YtehdjkikcfeiaaaGreatAbF
namespace Go.Ab
open Go.RowKit
section
variable {P : Program} {mu : TypeId → Bool} {call : CallF} {n : Nat} {ops : Array Oper} {aos : List AOper} {ρ ρ' : Env} {σ σ' : St} {G0 : Gh} {w0 : World} {a0 : Act} {steps : List Step} {ss : List St}
theorem mapM_get {α β : Type} {f : α → Option β} : ∀ {l : List α} {l' : List β}, l.mapM f = some l' → l'.length = l.length ∧ ∀ (i : Nat) (x' : β), l'[i]? = some x' → ∃ x, l[i]? = some x ∧ f x = some x'
 | [], l', h => by simp at h; subst h; exact ⟨rfl, fun i x' hx => by simp at hx⟩
 | x :: l, l', h => by
  simp only [List.mapM_cons, Option.bind_eq_bind, Option.bind_eq_some_iff, Option.pure_def, Option.some.injEq] at h
  obtain ⟨y, h1, l2, h2, rfl⟩ := h
  obtain ⟨k1, k2⟩ := mapM_get h2
  refine ⟨by simp [k1], fun i x' hx => ?_⟩
  cases i with
  | zero => simp at hx; subst hx; exact ⟨x, rfl, h1⟩
  | succ i => simpa using k2 i x' (by simpa using hx)
structure CompF (P : Program) (mu : TypeId → Bool) (n : Nat) (ops : Array Oper) (aos : List AOper) : Prop where
 len : aos.length = ops.size
 get : ∀ (i : Nat) (ao : AOper), aos[i]? = some ao → ∃ o : Oper, ops[i]? = some o ∧ cDst n o.dst = true ∧ cOp P mu o = some ao.op ∧ cGuard ops o.guard = some ao.guard ∧ ao.dst = o.dst
theorem cDraw_ok (h : cDraw P mu n ops = some aos) : CompF P mu n ops aos ∧ drawOk ops aos = true := by
 simp only [cDraw, Option.bind_eq_some_iff] at h
 obtain ⟨aos0, h1, h2⟩ := h
 split at h2
 · rename_i hd
   cases h2
   obtain ⟨k1, k2⟩ := mapM_get h1
   refine ⟨⟨by simp [k1], fun i ao hi => ?_⟩, hd⟩
   rw [List.getElem?_map, Option.map_eq_some_iff] at hi
   obtain ⟨⟨x, j⟩, hi, rfl⟩ := hi
   rw [List.getElem?_zipIdx, Option.map_eq_some_iff] at hi
   obtain ⟨x', hi, he⟩ := hi
   cases he
   obtain ⟨o, o1, o2⟩ := k2 i _ hi
   unfold cOper at o2
   split at o2
   · rename_i hdst
     simp only [Option.bind_eq_some_iff, Option.map_eq_some_iff] at o2
     obtain ⟨op, o3, g, o4, rfl⟩ := o2
     refine ⟨o, by simpa using o1, hdst, ?_⟩
     simp only
     split <;> exact ⟨o3, o4, rfl⟩
   · cases o2
 · cases h2
def Lst (listed : Array Bool) (i : Nat) : Prop := listed.getD i false = true
theorem Lst.set {listed : Array Bool} {i j : Nat} (hi : i < listed.size) : Lst (listed.setIfInBounds i true) j ↔ j = i ∨ Lst listed j := by
 unfold Lst
 by_cases h : j = i
 · subst h; simp [hi]
 · simp [h, Array.getElem?_setIfInBounds_ne (Ne.symm h)]
structure Pend (steps : List Step) (G0 G : Gh) (a : Act) (w : World) (i b : Nat) : Prop where
 ex : ∃ (s : Step) (z : V) (arr : Array Value) (t : TypeId) (d : Nat), steps[i]? = some s ∧ s.ran = true ∧ s.o.op = .box (.c z) ∧ s.o.dst = some d ∧ w.heap[b]? = some (.cells arr t (0, 0)) ∧
  RvL G w z.cellsOf arr.toList ∧ a.tmps.getD d undef = .pointer (some ⟨b, 0, none⟩)
 fr : G.fr b = 0
 prot : G.prot b
 old : ¬ G0.prot b
structure Inv (ops : Array Oper) (aos : List AOper) (ρ : Env) (G0 : Gh) (w0 : World) (a0 : Act) (n : Nat) (steps : List Step) (ss : List St)
  (listed : Array Bool) (c : Nat) (pb : Nat → Option Nat) (G : Gh) (a : Act) (w : World) : Prop where
 size : listed.size = ops.size
 cl : ∀ i j, j < aos.length → Lst listed i → bitOf (preOf ops) i j = true → Lst listed j
 low : ∀ e, Eff aos e → effB aos e < c → Lst listed e
 cE : c ≤ effB aos aos.length
 st : ∃ s, ss[c]? = some s ∧ Rs G s w
 ext : Ext (G0.withProt G0.prot) w0 (G.withProt G0.prot) w
 sub : ∀ b, G0.prot b → G.prot b
 pend : ∀ i b, pb i = some b → Lst listed i ∧ c ≤ effB aos i ∧ Pend steps G0 G a w i b
 high : ∀ e, Eff aos e → Lst listed e → c ≤ effB aos e → Alloc aos e ∧ ∀ s, steps[e]? = some s → s.ran = true → ∃ b, pb e = some b
 inj : ∀ i j b, pb i = some b → pb j = some b → i = j
 prot : ∀ b, G.prot b → G0.prot b ∨ ∃ i, pb i = some b
 vals : ∀ t, (∀ i b s, pb i = some b → steps[i]? = some s → s.o.dst ≠ some t) →
  (∀ i s, steps[i]? = some s → s.o.dst = some t → Lst listed i → Rv G w s.v (a.tmps.getD t undef)) ∧
  ((∀ i s, steps[i]? = some s → s.o.dst = some t → ¬ Lst listed i) → Rv G w (ρ t) (a.tmps.getD t undef))
 tsz : a.tmps.size = n
 dfs : a.defers = a0.defers
theorem xferL {G G1 : Gh} {w w1 : World} {p : Nat → Prop} (e : Ext (G.withProt p) w (G1.withProt p) w1) {xs : List V} {vs : List Value} (h : RvL G w xs vs) : RvL G1 w1 xs vs := by
 have k : RvL ((G1.withProt p).withProt G1.prot) w1 xs vs := RvL.prot _ _ (RvL.ext e _ _ (RvL.prot _ _ h))
 exact k
theorem xfer {G G1 : Gh} {w w1 : World} {p : Nat → Prop} (e : Ext (G.withProt p) w (G1.withProt p) w1) {x : V} {v : Value} (h : Rv G w x v) : Rv G1 w1 x v := by
 have k : Rv ((G1.withProt p).withProt G1.prot) w1 x v := Rv.prot _ _ (Rv.ext e _ _ (Rv.prot _ _ h))
 exact k
theorem getD_put {a : Act} {dst : Option Nat} {v : Value} {t : Nat} (h : dst ≠ some t) : (a.put dst v).tmps.getD t undef = a.tmps.getD t undef := by
 cases dst with
 | none => rfl
 | some d =>
  have hne : d ≠ t := fun e => h (by rw [e])
  simp [Act.put, Array.getElem?_setIfInBounds_ne hne]
theorem getD_put_eq {a : Act} {v : Value} {t : Nat} (h : t < a.tmps.size) : (a.put (some t) v).tmps.getD t undef = v := by
 simp [Act.put, h]
variable {listed : Array Bool} {c : Nat} {pb : Nat → Option Nat} {G : Gh} {a : Act} {w : World}
theorem Inv.step (F : DrawF ops aos (bitOf (preOf ops))) (T : TraceOk call aos ρ σ steps ss ρ' σ') (C : CompF P mu n ops aos) (h : Inv ops aos ρ G0 w0 a0 n steps ss listed c pb G a w)
  {i : Nat} {s : Step} (hs : steps[i]? = some s) (hd : cDst n s.o.dst = true) (hi : ¬ Lst listed i) (hpre : ∀ j, j < aos.length → bitOf (preOf ops) i j = true → Lst listed j)
  {c1 : Nat} {pb1 : Nat → Option Nat} {G1 : Gh} {w1 : World} {v' : Value} {s1 : St} (hst : ss[c1]? = some s1) (hrs : Rs G1 s1 w1)
  (hext : Ext (G.withProt G0.prot) w (G1.withProt G0.prot) w1) (hkeep : ∀ b, G.prot b → G1.prot b ∧ G1.fr b = G.fr b ∧ w1.heap[b]? = w.heap[b]?)
  (hcE : c1 ≤ effB aos aos.length) (hc : c ≤ c1) (low1 : ∀ e, Eff aos e → effB aos e < c1 → Lst listed e ∨ e = i)
  (high1 : Eff aos i → c1 ≤ effB aos i → Alloc aos i ∧ (s.ran = true → ∃ b, pb1 i = some b)) (hpc : ∀ j b, pb j = some b → c1 ≤ effB aos j)
  (hpb : ∀ j, j ≠ i → pb1 j = pb j) (hnew : ∀ b, pb1 i = some b → Pend steps G0 G1 (a.put s.o.dst v') w1 i b ∧ c1 ≤ effB aos i ∧ ∀ j, pb j ≠ some b)
  (hprot : ∀ b, G1.prot b → G.prot b ∨ pb1 i = some b) (hv : pb1 i = none → Rv G1 w1 s.v v') :
  Inv ops aos ρ G0 w0 a0 n steps ss (listed.setIfInBounds i true) c1 pb1 G1 (a.put s.o.dst v') w1 := by
 have hlt : i < aos.length := by have := (List.getElem?_eq_some_iff.1 hs).1; rw [T.len] at this; exact this
 have hsz : i < listed.size := by rw [h.size, ← C.len]; exact hlt
 have L : ∀ j, Lst (listed.setIfInBounds i true) j ↔ j = i ∨ Lst listed j := fun j => Lst.set hsz
 have uniq : ∀ j u t, steps[j]? = some u → u.o.dst = some t → s.o.dst = some t → j = i := by
  intro j u t hu h1 h2
  by_cases hji : j = i
  · exact hji
  · exact absurd h2 (F.f4 i j s.o u.o t (T.op i s hs) (T.op j u hu) (Ne.symm hji) h1)
 have pbi : pb i = none := by
  cases hp : pb i with
  | none => rfl
  | some b => exact absurd (h.pend i b hp).1 hi
 refine ⟨by simp [h.size], ?_, ?_, hcE, ⟨s1, hst, hrs⟩, h.ext.trans hext, fun b hb => (hkeep b (h.sub b hb)).1, ?_, ?_, ?_, ?_, ?_, by rw [put_size, h.tsz], by rw [put_defers', h.dfs]⟩
 · intro k j hj hk hp
   rw [L] at hk ⊢
   rcases hk with rfl | hk
   · exact .inr (hpre j hj hp)
   · exact .inr (h.cl k j hj hk hp)
 · intro e he hlt
   rw [L]
   exact (low1 e he hlt).symm
 · intro j b hj
   rw [L]
   by_cases hji : j = i
   · subst hji
     obtain ⟨k1, k2, _⟩ := hnew b hj
     exact ⟨.inl rfl, k2, k1⟩
   · rw [hpb j hji] at hj
     obtain ⟨k1, k2, ⟨⟨u, z, arr, t, d, e1, e2, e3, e4, e5, e6, e7⟩, p2, p3, p4⟩⟩ := h.pend j b hj
     obtain ⟨q1, q2, q3⟩ := hkeep b p3
     refine ⟨.inr k1, hpc j b hj, ⟨u, z, arr, t, d, e1, e2, e3, e4, q3.trans e5, xferL hext e6, ?_⟩, q2.trans p2, q1, p4⟩
     rw [getD_put]; exact e7
     exact fun hh => hji (uniq j u d e1 e4 hh)
 · intro e he hl hce
   rw [L] at hl
   by_cases hei : e = i
   · subst hei
     obtain ⟨k1, k2⟩ := high1 he hce
     exact ⟨k1, fun u hu hr => by rw [hs] at hu; cases hu; exact k2 hr⟩
   · obtain ⟨k1, k2⟩ := h.high e he (hl.resolve_left hei) (Nat.le_trans hc hce)
     exact ⟨k1, fun u hu hr => by rw [hpb e hei]; exact k2 u hu hr⟩
 · intro j k b hj hk
   by_cases hji : j = i <;> by_cases hki : k = i
   · rw [hji, hki]
   · subst hji; rw [hpb k hki] at hk; exact absurd hk ((hnew b hj).2.2 k)
   · subst hki; rw [hpb j hji] at hj; exact absurd hj ((hnew b hk).2.2 j)
   · rw [hpb j hji] at hj; rw [hpb k hki] at hk; exact h.inj j k b hj hk
 · intro b hb
   rcases hprot b hb with hb | hb
   · rcases h.prot b hb with hb | ⟨j, hj⟩
     · exact .inl hb
     · refine .inr ⟨j, ?_⟩
       rw [hpb j (fun e => by subst e; rw [pbi] at hj; cases hj)]; exact hj
   · exact .inr ⟨i, hb⟩
 · intro t ht
   have ht0 : ∀ j b u, pb j = some b → steps[j]? = some u → u.o.dst ≠ some t := by
    intro j b u hj hu
    refine ht j b u ?_ hu
    rw [hpb j (fun e => by subst e; rw [pbi] at hj; cases hj)]; exact hj
   by_cases hdt : s.o.dst = some t
   · have hnone : pb1 i = none := by
      cases hp : pb1 i with
      | none => rfl
      | some b => exact absurd hdt (ht i b s hp hs)
     have htn : t < a.tmps.size := by rw [hdt] at hd; simpa [cDst, h.tsz] using hd
     have hg : (a.put s.o.dst v').tmps.getD t undef = v' := by rw [hdt]; exact getD_put_eq htn
     rw [hg]
     refine ⟨fun j u hu h1 _ => ?_, fun hno => absurd ((L i).2 (.inl rfl)) (hno i s hs hdt)⟩
     have := uniq j u t hu h1 hdt
     subst this
     rw [hs] at hu; cases hu
     exact hv hnone
   · rw [getD_put hdt]
     obtain ⟨k1, k2⟩ := h.vals t ht0
     refine ⟨fun j u hu h1 hl => xfer hext (k1 j u hu h1 (((L j).1 hl).resolve_left ?_)), fun hno => xfer hext (k2 fun j u hu h1 hl => hno j u hu h1 ((L j).2 (.inr hl)))⟩
     intro hji; subst hji
     rw [hs] at hu; cases hu
     exact hdt h1
theorem aBox_some {σ σ' : St} {x r : V} (h : aBox σ x = some (r, σ')) : r = .ptr σ.n 0 ∧ σ' = σ.push (.cells x.cellsOf) := by
 unfold aBox at h
 split at h
 · cases h; exact ⟨rfl, rfl⟩
 · cases h
theorem Inv.advance (F : DrawF ops aos (bitOf (preOf ops))) (T : TraceOk call aos ρ σ steps ss ρ' σ') : ∀ (m c : Nat) (pb : Nat → Option Nat) (G : Gh), effB aos aos.length - c ≤ m → Inv ops aos ρ G0 w0 a0 n steps ss listed c pb G a w →
  ∃ c' pb' G', Inv ops aos ρ G0 w0 a0 n steps ss listed c' pb' G' a w ∧ ∀ e, Eff aos e → effB aos e = c' → ¬ Lst listed e := by
 intro m
 induction m with
 | zero =>
  intro c pb G hm h
  refine ⟨c, pb, G, h, fun e he hc => ?_⟩
  have := effB_lt he he.lt
  omega
 | succ m ih =>
  intro c pb G hm h
  by_cases hex : ∃ e, Eff aos e ∧ effB aos e = c ∧ Lst listed e
  · obtain ⟨e, he, hc, hl⟩ := hex
    have hlt := effB_lt he he.lt
    obtain ⟨hal, hp⟩ := h.high e he hl (by omega)
    have hes : e < steps.length := by rw [T.len]; exact he.lt
    have hs : steps[e]? = some steps[e] := List.getElem?_eq_getElem hes
    generalize steps[e] = s at hs
    obtain ⟨s0, hst, hrs⟩ := h.st
    obtain ⟨hran, s0', hs0, hr1, hr2⟩ := T.at_ e s hs
    rw [hc, hst] at hs0; cases hs0
    rw [effB_eff he, hc] at hr1 hr2
    have low1 : ∀ e', Eff aos e' → effB aos e' < c + 1 → Lst listed e' := by
     intro e' he' hlt'
     rcases Nat.lt_or_ge (effB aos e') c with k | k
     · exact h.low e' he' k
     · have := effB_inj he he' (by omega)
       subst this; exact hl
    cases hb : s.ran with
    | false =>
     obtain ⟨_, k2⟩ := hr2 hb
     refine ih (c + 1) pb G (by omega) ⟨h.size, h.cl, low1, by omega, ⟨_, k2, hrs⟩, h.ext, h.sub, ?_, fun e' he' hl' hc' => h.high e' he' hl' (by omega), h.inj, h.prot, h.vals, h.tsz, h.dfs⟩
     intro j b hj
     obtain ⟨k1, k2, k3⟩ := h.pend j b hj
     refine ⟨k1, ?_, k3⟩
     rcases Nat.lt_or_ge c (effB aos j) with hh | hh
     · exact hh
     · obtain ⟨u, z, arr, t, d, e1, e2, e3, e4, _⟩ := k3.ex
       have hje : Eff aos j := ⟨u.o, T.op j u e1, by rw [e3]; rfl⟩
       have := effB_inj he hje (by omega)
       subst this
       rw [hs] at e1; cases e1
       rw [hb] at e2; cases e2
    | true =>
     obtain ⟨b, hpe⟩ := hp s hs hb
     obtain ⟨k1, k2, k3⟩ := h.pend e b hpe
     obtain ⟨⟨u, z, arr, t, d, e1, e2, e3, e4, e5, e6, e7⟩, p2, p3, p4⟩ := k3
     rw [hs] at e1; cases e1
     obtain ⟨s1, r1, r2⟩ := hr1 hb
     rw [e3] at r1
     obtain ⟨rv, rs⟩ := aBox_some (x := z) r1
     have htrue : True := trivial
     · clear htrue
       have had := hrs.adopt (cs := z.cellsOf) (p := fun k => G.prot k ∧ k ≠ b) p3 p2 e5 e6 (fun j v hj => by simpa using hj) (by simp) (fun k hk => hk)
       rw [← rs] at had
       have ex1 : Ext (G.withProt G0.prot) w (((G.withProt fun k => G.prot k ∧ k ≠ b).addOb s0.n (b, 0)).withProt G0.prot) w :=
        ⟨fun o y hy => by simp only [Gh.addOb, Gh.withProt]; rw [if_neg (hrs.ob_n o y hy)]; exact hy, fun _ _ h => h, fun _ _ h => h, fun _ => Nat.le_refl _, fun _ _ _ => rfl, fun _ arr _ fz h => ⟨arr, fz, h, rfl⟩, rfl, fun _ _ => rfl, Keeps.refl _ _⟩
       refine ih (c + 1) (fun j => if j = e then none else pb j) _ (by omega) ⟨h.size, h.cl, low1, by omega, ⟨s1, r2, had⟩, h.ext.trans ex1, fun k hk => ⟨h.sub k hk, fun hkb => p4 (hkb ▸ hk)⟩, ?_, ?_, ?_, ?_, ?_, h.tsz, h.dfs⟩
       · intro j b' hj
         by_cases hje : j = e
         · simp [hje] at hj
         · simp only [hje, if_false] at hj
           obtain ⟨q1, q2, ⟨⟨u', z', arr', t', d', f1, f2, f3, f4, f5, f6, f7⟩, g2, g3, g4⟩⟩ := h.pend j b' hj
           have hne : b' ≠ b := fun hbb => hje (h.inj j e b' hj (hbb ▸ hpe))
           refine ⟨q1, ?_, ⟨u', z', arr', t', d', f1, f2, f3, f4, f5, xferL ex1 f6, f7⟩, g2, ⟨g3, hne⟩, g4⟩
           have hjE : Eff aos j := ⟨u'.o, T.op j u' f1, by rw [f3]; rfl⟩
           rcases Nat.lt_or_ge c (effB aos j) with hh | hh
           · exact hh
           · exact absurd (effB_inj hjE he (by omega)) hje
       · intro e' he' hl' hc'
         obtain ⟨q1, q2⟩ := h.high e' he' hl' (by omega)
         refine ⟨q1, fun u' hu' hr' => ?_⟩
         have hne : e' ≠ e := fun hh => by subst hh; omega
         simp only [hne, if_false]
         exact q2 u' hu' hr'
       · intro j k b' hj hk
         by_cases hje : j = e
         · simp [hje] at hj
         · by_cases hke : k = e
           · simp [hke] at hk
           · simp only [hje, if_false] at hj
             simp only [hke, if_false] at hk
             exact h.inj j k b' hj hk
       · intro k hk
         obtain ⟨hk, hkb⟩ := hk
         rcases h.prot k hk with hk | ⟨j, hj⟩
         · exact .inl hk
         · refine .inr ⟨j, ?_⟩
           have hje : j ≠ e := fun hh => by subst hh; rw [hpe] at hj; cases hj; exact hkb rfl
           simp only [hje, if_false]; exact hj
       · intro t' ht'
         by_cases htd : t' = d
         · subst htd
           rw [e7]
           refine ⟨fun j u' hu' h1 _ => ?_, fun hno => absurd hl (hno e s hs e4)⟩
           have hje : j = e := by
            by_cases hje : j = e
            · exact hje
            · exact absurd e4 (F.f4 e j s.o u'.o t' (T.op e s hs) (T.op j u' hu') (Ne.symm hje) h1)
           subst hje
           rw [hs] at hu'; cases hu'
           rw [rv]
           simp only [Rv]
           exact ⟨b, 0, by simp [Gh.addOb], rfl⟩
         · have ht0 : ∀ j b' u', pb j = some b' → steps[j]? = some u' → u'.o.dst ≠ some t' := by
            intro j b' u' hj hu'
            by_cases hje : j = e
            · subst hje
              rw [hs] at hu'; cases hu'
              rw [e4]
              exact fun hh => htd (by cases hh; rfl)
            · refine ht' j b' u' ?_ hu'
              simp only [hje, if_false]; exact hj
           obtain ⟨q1, q2⟩ := h.vals t' ht0
           exact ⟨fun j u' hu' h1 hl' => xfer ex1 (q1 j u' hu' h1 hl'), fun hno => xfer ex1 (q2 hno)⟩
  · exact ⟨c, pb, G, h, fun e he hc hl => hex ⟨e, he, hc, hl⟩⟩
end
end Go.Ab
