/- A store with more objects in it: what runs in the lesser one runs in the greater one, and leaves the rest as it is. -/
import Derived.Test.YtehdjkikcfeiaaaGreatAbW
namespace Go.Ab
set_option linter.unusedVariables false
set_option linter.unusedSimpArgs false
section
structure Sim (a b : St) : Prop where
 n : a.n = b.n
 get : ∀ o x, a.get o = some x → b.get o = some x
structure E2 (k : Nat) (a b a' b' : St) : Prop where
 sim : Sim a' b'
 n : a.n ≤ a'.n
 rest : ∀ o, o < k → a.get o = none → a'.get o = none ∧ b'.get o = b.get o
variable {a b a' b' : St} {k : Nat}
theorem E2.refl (h : Sim a b) : E2 k a b a b := ⟨h, Nat.le_refl _, fun _ _ h => ⟨h, rfl⟩⟩
theorem E2.trans {a2 b2 : St} (h : E2 k a b a' b') (h2 : E2 k a' b' a2 b2) : E2 k a b a2 b2 :=
 ⟨h2.sim, Nat.le_trans h.n h2.n, fun o ho hn => by
  obtain ⟨h3, h4⟩ := h.rest o ho hn
  obtain ⟨h5, h6⟩ := h2.rest o ho h3
  exact ⟨h5, h6.trans h4⟩⟩
theorem E2.less {j : Nat} (h : E2 k a b a' b') (hj : j ≤ k) : E2 j a b a' b' := ⟨h.sim, h.n, fun o ho hn => h.rest o (by omega) hn⟩
theorem E2.push (h : Sim a b) (hk : k ≤ a.n) (x : Ob) : E2 k a b (a.push x) (b.push x) := by
 refine ⟨⟨by simp [h.n], fun o y hy => ?_⟩, by simp, fun o ho hn => ?_⟩
 · rw [St.get_push] at hy ⊢
   rw [← h.n]
   split at hy
   · rename_i he; rw [if_pos he]; exact hy
   · rename_i he; rw [if_neg he]; exact h.get o y hy
 · have hb := h.n
   rw [St.get_push, St.get_push, if_neg (by omega), if_neg (by omega)]
   exact ⟨hn, rfl⟩
theorem E2.put (h : Sim a b) {o : Nat} {y : Ob} (ho : a.get o = some y) (x : Option Ob) : E2 k a b (a.put o x) (b.put o x) := by
 have hl := St.get_lt ho
 have hl2 := St.get_lt (h.get o y ho)
 refine ⟨⟨by simp [h.n], fun p z hz => ?_⟩, by simp, fun p hp hn => ?_⟩
 · rw [St.get_put _ _ _ _ hl] at hz
   rw [St.get_put _ _ _ _ hl2]
   split at hz
   · rename_i he; rw [if_pos he]; exact hz
   · rename_i he; rw [if_neg he]; exact h.get p z hz
 · have hne : p ≠ o := by rintro rfl; rw [ho] at hn; cases hn
   rw [St.get_put _ _ _ _ hl, St.get_put _ _ _ _ hl2, if_neg hne, if_neg hne]
   exact ⟨hn, rfl⟩
theorem E2.putpush (h : Sim a b) (hk : k ≤ a.n) {o : Nat} {y : Ob} (ho : a.get o = some y) (x : Option Ob) (z : Ob) : E2 k a b ((a.put o x).push z) ((b.put o x).push z) :=
 (E2.put h ho x).trans (E2.push (E2.put (k := k) h ho x).sim (by simpa using hk) z)
theorem load_mono (h : Sim a b) {x : V} {n : Option Nat} {v : V} (hl : aLoad a x n = some v) : aLoad b x n = some v := by
 unfold aLoad at hl ⊢
 split at hl
 · rename_i o f
   split at hl
   · rename_i cs hg
     simp only [h.get _ _ hg]; exact hl
   · cases hl
 · exact hl
 · cases hl
theorem src_mono (h : Sim a b) {sz : Nat} {x : V} {v : Nat × List V} (hl : aSrc a sz x = some v) : aSrc b sz x = some v := by
 unfold aSrc at hl ⊢
 split at hl <;> try exact hl
 rename_i o off s n _
 split at hl
 · rename_i cs hg
   simp only [h.get _ _ hg]; exact hl
 · cases hl
theorem ptrEq_mono (h : Sim a b) {x y : V} {r : Bool} (hl : aPtrEq a x y = some r) : aPtrEq b x y = some r := by
 unfold aPtrEq at hl ⊢
 split at hl <;> try exact hl
 rename_i o f o' f'
 split at hl
 · rename_i he; rw [if_pos he]; exact hl
 · rename_i he
   rw [if_neg he]
   split at hl
   · rename_i cs cs' h1 h2
     simp only [h.get _ _ h1, h.get _ _ h2]; exact hl
   · cases hl
theorem allO_mono {f g : Nat → Option Bool} (h : ∀ i r, f i = some r → g i = some r) : ∀ {n : Nat} {r : Bool}, allO f n = some r → allO g n = some r
 | 0, r, hr => hr
 | n + 1, r, hr => by
  simp only [allO, Option.bind_eq_some_iff, Option.map_eq_some_iff] at hr ⊢
  obtain ⟨r1, h1, r2, h2, h3⟩ := hr
  exact ⟨r1, allO_mono h h1, r2, h n r2 h2, h3⟩
mutual
theorem eqV_mono (h : Sim a b) : ∀ (q : EqT) (x y : V) (r : Bool), aEqV a q x y = some r → aEqV b q x y = some r
 | .int _, x, y, r, hr | .bool, x, y, r, hr | .str, x, y, r, hr | .slice, x, y, r, hr | .map, x, y, r, hr | .func, x, y, r, hr => by
  simpa only [aEqV] using hr
 | .ptr, x, y, r, hr => by
  simp only [aEqV] at hr ⊢
  exact ptrEq_mono h hr
 | .struct fs, x, y, r, hr => by
  unfold aEqV at hr ⊢
  split at hr
  · exact eqFs_mono h fs _ _ r hr
  · cases hr
 | .arr len sz n e, x, y, r, hr => by
  unfold aEqV at hr ⊢
  split at hr
  · refine allO_mono (fun i r hi => ?_) hr
    simp only [Option.bind_eq_some_iff] at hi ⊢
    obtain ⟨u, h1, w, h2, h3⟩ := hi
    exact ⟨u, h1, w, h2, eqV_mono h e u w r h3⟩
  · cases hr
theorem eqFs_mono (h : Sim a b) : ∀ (fs : List (Nat × Option Nat × EqT)) (xs ys : List V) (r : Bool), aEqFs a fs xs ys = some r → aEqFs b fs xs ys = some r
 | [], xs, ys, r, hr => by simpa only [aEqFs] using hr
 | (off, n, e) :: fs, xs, ys, r, hr => by
  simp only [aEqFs, Option.bind_eq_some_iff, Option.map_eq_some_iff] at hr ⊢
  obtain ⟨u, h1, w, h2, r1, h3, r2, h4, h5⟩ := hr
  exact ⟨u, h1, w, h2, r1, eqV_mono h e u w r1 h3, r2, eqFs_mono h fs xs ys r2 h4, h5⟩
end
theorem b2s_mono (h : Sim a b) {x v : V} (hl : aB2s a x = some v) : aB2s b x = some v := by
 unfold aB2s at hl ⊢
 rw [Option.bind_eq_some_iff] at hl ⊢
 obtain ⟨p, h1, h2⟩ := hl
 exact ⟨p, src_mono h h1, h2⟩
theorem slice_mono (h : Sim a b) {x : V} {lo hi mx : Option V} {v : V} (hl : aSliceR a x lo hi mx = some v) : aSliceR b x lo hi mx = some v := by
 unfold aSliceR at hl ⊢
 cases hs : aSlice x lo hi mx with
 | some u => rw [hs] at hl; exact hl
 | none =>
  rw [hs] at hl
  simp only at hl ⊢
  unfold aSliceO at hl ⊢
  split at hl
  · split at hl
    · rename_i cs hg
      simp only [h.get _ _ hg]; exact hl
    · cases hl
  · cases hl
theorem box_mono (h : Sim a b) (hk : k ≤ a.n) {x v : V} (hl : aBox a x = some (v, a')) : ∃ b', aBox b x = some (v, b') ∧ E2 k a b a' b' := by
 unfold aBox at hl ⊢
 split at hl
 · rename_i hc
   cases hl
   rw [if_pos hc, h.n]
   exact ⟨_, rfl, E2.push h hk _⟩
 · cases hl
theorem store_mono (h : Sim a b) {n : Nat} {x y : V} (hl : aStore a n x y = some a') : ∃ b', aStore b n x y = some b' ∧ E2 k a b a' b' := by
 unfold aStore at hl ⊢
 split at hl
 · rename_i o f
   split at hl
   · rename_i cs hg
     split at hl
     · rename_i hc
       cases hl
       simp only [h.get _ _ hg]
       rw [if_pos hc]
       exact ⟨_, rfl, E2.put h hg _⟩
     · cases hl
   · cases hl
 · cases hl
theorem s2b_mono (h : Sim a b) (hk : k ≤ a.n) {x v : V} (hl : aS2b a x = some (v, a')) : ∃ b', aS2b b x = some (v, b') ∧ E2 k a b a' b' := by
 unfold aS2b at hl ⊢
 split at hl
 · cases hl
   rw [h.n]
   exact ⟨_, rfl, E2.push h hk _⟩
 · cases hl
theorem fresh_mono (h : Sim a b) (hk : k ≤ a.n) {mu : Bool} {sz bytes m n : Nat} {news olds : List V} {v : V} (hl : aFresh mu sz bytes m news a n olds = some (v, a')) : ∃ b', aFresh mu sz bytes m news b n olds = some (v, b') ∧ E2 k a b a' b' := by
 unfold aFresh at hl ⊢
 split at hl
 · rename_i hc
   rw [if_pos hc]
   split at hl
   · rename_i hm
     rw [if_pos hm]
     split at hl
     · rename_i ho
       cases hl
       rw [if_pos ho, h.n]
       exact ⟨_, rfl, E2.push h hk _⟩
     · cases hl
   · rename_i hm
     cases hl
     rw [if_neg hm, h.n]
     exact ⟨_, rfl, E2.push h hk _⟩
 · cases hl
theorem tok_mono (h : Sim a b) (hk : k ≤ a.n) {mu : Bool} {sz bytes m t n : Nat} {news cells : List V} {v : V} (hl : aTok mu sz bytes m news a t n cells = some (v, a')) : ∃ b', aTok mu sz bytes m news b t n cells = some (v, b') ∧ E2 k a b a' b' := by
 unfold aTok at hl ⊢
 split at hl
 · rename_i hg
   simp only [h.get _ _ hg]
   split at hl
   · rename_i hc
     cases hl
     rw [if_pos hc, h.n]
     exact ⟨_, rfl, E2.putpush h hk hg _ _⟩
   · cases hl
 · cases hl
theorem obj_mono (h : Sim a b) (hk : k ≤ a.n) {sz m o off n : Nat} {news cs : List V} {lim : Option Nat} {v : V} (hg : a.get o = some (.cells cs)) (hl : aObj sz m news a o off n lim cs = some (v, a')) : ∃ b', aObj sz m news b o off n lim cs = some (v, b') ∧ E2 k a b a' b' := by
 unfold aObj at hl ⊢
 split at hl
 · split at hl
   · rename_i hc
     rw [if_pos hc]
     split at hl
     · rename_i hd
       cases hl
       rw [if_pos hd]
       exact ⟨_, rfl, E2.put h hg _⟩
     · cases hl
   · rename_i hc
     cases hl
     rw [if_neg hc, h.n]
     exact ⟨_, rfl, E2.push h hk _⟩
 · split at hl
   · rename_i hc
     cases hl
     rw [if_pos hc]
     exact ⟨_, rfl, E2.put h hg _⟩
   · rename_i hc
     rw [if_neg hc]
     split at hl
     · rename_i hd
       cases hl
       rw [if_pos hd, h.n]
       exact ⟨_, rfl, E2.putpush h hk hg _ _⟩
     · cases hl
theorem grow_mono (h : Sim a b) (hk : k ≤ a.n) {mu : Bool} {sz bytes m : Nat} {news : List V} {x v : V} (hl : aGrow mu sz bytes m news a x = some (v, a')) : ∃ b', aGrow mu sz bytes m news b x = some (v, b') ∧ E2 k a b a' b' := by
 unfold aGrow at hl ⊢
 split at hl
 · exact fresh_mono h hk hl
 · exact fresh_mono h hk hl
 · split at hl
   · rename_i hc
     rw [if_pos hc]
     split at hl
     · exact fresh_mono h hk hl
     · exact tok_mono h hk hl
     · cases hl
   · cases hl
 · split at hl
   · rename_i cs hg
     simp only [h.get _ _ hg]
     split at hl
     · rename_i hc
       rw [if_pos hc]
       exact obj_mono h hk hg hl
     · cases hl
   · cases hl
 · cases hl
theorem append_mono (h : Sim a b) (hk : k ≤ a.n) {mu : Bool} {sz bytes : Nat} {x y v : V} (hl : aAppend mu sz bytes a x y = some (v, a')) : ∃ b', aAppend mu sz bytes b x y = some (v, b') ∧ E2 k a b a' b' := by
 unfold aAppend at hl ⊢
 rw [Option.bind_eq_some_iff] at hl
 obtain ⟨⟨m, news⟩, h1, h2⟩ := hl
 rw [src_mono h h1, Option.bind_some]
 simp only at h2 ⊢
 split at h2
 · rename_i hm
   rw [if_pos hm]
   simp only [Option.map_eq_some_iff, Prod.mk.injEq] at h2 ⊢
   obtain ⟨u, h3, h4, rfl⟩ := h2
   exact ⟨b, ⟨u, h3, h4, rfl⟩, E2.refl h⟩
 · rename_i hm
   rw [if_neg hm]
   split at h2
   · rename_i hc
     rw [if_pos hc]
     exact grow_mono h hk h2
   · cases h2
theorem ents_mono (h : Sim a b) {x : V} {es : List (V × V × Nat)} (hl : aEnts a x = some es) : aEnts b x = some es := by
 unfold aEnts at hl ⊢
 split at hl <;> try exact hl
 rename_i o
 split at hl
 · rename_i hg
   simp only [h.get _ _ hg]; exact hl
 · cases hl
theorem key_mono (h : Sim a b) {q : EqT} {x : V} (hl : aKey a q x = true) : aKey b q x = true := by
 unfold aKey at hl ⊢
 obtain ⟨r, hr⟩ := Option.isSome_iff_exists.1 hl
 rw [eqV_mono h q x x r hr]; rfl
theorem find_mono (h : Sim a b) {q : EqT} {x : V} : ∀ {es : List (V × V × Nat)} {i : Nat} {r : Option (Nat × V × V)}, aFind a q x es i = some r → aFind b q x es i = some r
 | [], i, r, hr => by simpa only [aFind] using hr
 | e :: es, i, r, hr => by
  simp only [aFind, Option.bind_eq_some_iff] at hr ⊢
  obtain ⟨t, h1, h2⟩ := hr
  refine ⟨t, eqV_mono h _ _ _ _ h1, ?_⟩
  split at h2
  · rename_i ht; rw [if_pos ht]; exact h2
  · rename_i ht; rw [if_neg ht]; exact find_mono h h2
theorem bump_mono (h : Sim a b) (hk : k ≤ a.n) : E2 k a b a.bump b.bump := by
 refine ⟨⟨by simp [h.n], fun o y hy => ?_⟩, by simp, fun o ho hn => ?_⟩
 · rw [St.get_bump] at hy ⊢; exact h.get o y hy
 · rw [St.get_bump, St.get_bump]; exact ⟨hn, rfl⟩
theorem xop_mono (h : Sim a b) (hk : k ≤ a.n) {e : XOp} {xs : List V} {v : V} (hl : e.run a xs = some (v, a')) : ∃ b', e.run b xs = some (v, b') ∧ E2 k a b a' b' := by
 unfold XOp.run at hl
 split at hl
 · cases hl
   exact ⟨b.push (.map [] 0), by simp only [XOp.run, h.n], E2.push h hk _⟩
 · rename_i q z ok m ky
   simp only [XOp.run]
   rw [Option.bind_eq_some_iff] at hl
   obtain ⟨es, h1, h2⟩ := hl
   rw [ents_mono h h1, Option.bind_some]
   split at h2
   · rename_i hc
     rw [if_pos (key_mono h hc)]
     rw [Option.map_eq_some_iff] at h2
     obtain ⟨r, h3, h4⟩ := h2
     cases h4
     rw [find_mono h h3]
     exact ⟨b, rfl, E2.refl h⟩
   · cases h2
 · rename_i q m ky x
   simp only [XOp.run]
   split at hl
   · rename_i o
     split at hl
     · rename_i es c hg
       simp only [h.get _ _ hg]
       split at hl
       · rename_i hc
         rw [if_pos (key_mono h hc)]
         rw [Option.bind_eq_some_iff] at hl
         obtain ⟨r, h3, h4⟩ := hl
         rw [find_mono h h3, Option.bind_some]
         split at h4
         · split at h4
           · rename_i hd
             cases h4
             simp only [hd, if_true]
             exact ⟨_, rfl, E2.put h hg _⟩
           · cases h4
         · cases h4
           exact ⟨_, rfl, E2.put h hg _⟩
       · cases hl
     · cases hl
   · cases hl
 · rename_i q m ky
   simp only [XOp.run]
   split at hl
   · split at hl
     · rename_i hc
       cases hl
       rw [if_pos (key_mono h hc)]
       exact ⟨_, rfl, E2.refl h⟩
     · cases hl
   · rename_i o
     split at hl
     · rename_i es c hg
       simp only [h.get _ _ hg]
       split at hl
       · rename_i hc
         rw [if_pos (key_mono h hc)]
         rw [Option.map_eq_some_iff] at hl
         obtain ⟨r, h3, h4⟩ := hl
         rw [find_mono h h3, Option.map_some]
         split at h4
         · cases h4
           exact ⟨_, rfl, E2.put h hg _⟩
         · cases h4
           exact ⟨_, rfl, E2.put h hg _⟩
       · cases hl
     · cases hl
   · cases hl
 · rename_i m
   simp only [XOp.run]
   rw [Option.map_eq_some_iff] at hl
   obtain ⟨es, h1, h2⟩ := hl
   cases h2
   rw [ents_mono h h1]
   exact ⟨_, rfl, E2.refl h⟩
 · rename_i n z x
   split at hl
   · cases hl; exact ⟨b, by simp only [XOp.run], E2.refl h⟩
   · cases hl; exact ⟨b, by simp only [XOp.run], E2.refl h⟩
   · cases hl; exact ⟨b, by simp only [XOp.run], E2.refl h⟩
   · cases hl; exact ⟨b, by simp only [XOp.run], E2.refl h⟩
   · split at hl
     · rename_i cs hg
       split at hl
       · rename_i hc
         cases hl
         refine ⟨_, ?_, E2.put h hg _⟩
         simp only [XOp.run, h.get _ _ hg]
         rw [if_pos hc]
       · cases hl
     · cases hl
   · cases hl
 · rename_i mu n bytes z l c
   split at hl
   · rename_i lk li ck ci
     split at hl
     · rename_i hc
       split at hl
       · rename_i hm
         cases hl
         refine ⟨_, ?_, E2.push h hk _⟩
         simp only [XOp.run]
         rw [if_pos hc, if_pos hm, h.n]
       · rename_i hm
         split at hl
         · rename_i hd
           cases hl
           refine ⟨_, ?_, E2.refl h⟩
           simp only [XOp.run]
           rw [if_pos hc, if_neg hm, if_pos hd]
         · cases hl
     · cases hl
   · cases hl
 · cases hl; exact ⟨b, by simp only [XOp.run], E2.refl h⟩
 · cases hl; exact ⟨b, by simp only [XOp.run], E2.refl h⟩
 · rename_i n sz x
   rw [Option.map_eq_some_iff] at hl
   obtain ⟨u, h1, h2⟩ := hl
   cases h2
   exact ⟨b, by simp only [XOp.run, h1, Option.map_some], E2.refl h⟩
 · rw [Option.map_eq_some_iff] at hl
   obtain ⟨u, h1, h2⟩ := hl
   cases h2
   exact ⟨b, by simp only [XOp.run, h1, Option.map_some], E2.refl h⟩
 · rw [Option.map_eq_some_iff] at hl
   obtain ⟨u, h1, h2⟩ := hl
   cases h2
   exact ⟨b, by simp only [XOp.run, h1, Option.map_some], E2.refl h⟩
 · rw [Option.map_eq_some_iff] at hl
   obtain ⟨u, h1, h2⟩ := hl
   cases h2
   exact ⟨b, by simp only [XOp.run, h1, Option.map_some], E2.refl h⟩
 · rename_i t ok x
   split at hl
   · rename_i t' y
     split at hl
     · rename_i he
       cases hl
       exact ⟨b, by simp only [XOp.run, he, if_true], E2.refl h⟩
     · cases hl
   · cases hl
 · rename_i x
   split at hl
   · rename_i t o
     split at hl
     · rename_i es c hg
       cases hl
       refine ⟨_, ?_, E2.push h hk _⟩
       simp only [XOp.run, h.get _ _ hg, h.n]
     · cases hl
   · cases hl
 · rename_i x
   split at hl
   · rename_i hc
     cases hl
     refine ⟨_, ?_, bump_mono h hk⟩
     simp only [XOp.run]
     rw [if_pos hc]
   · cases hl
 · rename_i off n r x
   split at hl
   · split at hl
     · rename_i hc
       cases hl
       refine ⟨_, ?_, E2.refl h⟩
       simp only [XOp.run]
       rw [if_pos hc]
     · cases hl
   · cases hl
 · rename_i n x y
   rw [Option.bind_eq_some_iff] at hl
   obtain ⟨⟨m, news⟩, h1, h2⟩ := hl
   simp only [XOp.run, src_mono h h1, Option.bind_some]
   dsimp only at h2
   split at h2
   · cases h2; exact ⟨b, rfl, E2.refl h⟩
   · cases h2; exact ⟨b, rfl, E2.refl h⟩
   · cases h2; exact ⟨b, rfl, E2.refl h⟩
   · split at h2
     · rename_i cs hg
       split at h2
       · rename_i hc
         cases h2
         refine ⟨_, ?_, E2.put h hg _⟩
         simp only [h.get _ _ hg]
         rw [if_pos hc]
       · cases h2
     · cases h2
   · cases h2
 · cases hl
def FnS (f g : List V → St → Option (V × St)) : Prop := ∀ args a b v a', Sim a b → f args a = some (v, a') → ∃ b', g args b = some (v, b') ∧ E2 a.n a b a' b'
structure CS (c d : CallF) : Prop where
 fn : ∀ f, FnS (c.fn f) (d.fn f)
 yl : ∀ j, FnS (c.yl j) (d.yl j)
theorem op_mono {c d : CallF} (hc : CS c d) {op : AOp} {ρ : Env} {v : V} (h : Sim a b) (hl : op.run c ρ a = some (v, a')) : ∃ b', op.run d ρ b = some (v, b') ∧ E2 a.n a b a' b' := by
 have hk := Nat.le_refl a.n
 cases op with
 | box x => exact box_mono h hk hl
 | load n x =>
  simp only [AOp.run, Option.map_eq_some_iff, Prod.mk.injEq] at hl ⊢
  obtain ⟨u, h1, h2, rfl⟩ := hl
  exact ⟨b, ⟨u, load_mono h h1, h2, rfl⟩, E2.refl h⟩
 | store n x y =>
  simp only [AOp.run, Option.map_eq_some_iff, Prod.mk.injEq] at hl ⊢
  obtain ⟨u, h1, h2, rfl⟩ := hl
  obtain ⟨b', h3, h4⟩ := store_mono (k := a.n) h h1
  exact ⟨b', ⟨b', h3, h2, rfl⟩, h4⟩
 | eq ng q x y =>
  simp only [AOp.run, Option.map_eq_some_iff, Prod.mk.injEq] at hl ⊢
  obtain ⟨u, h1, h2, rfl⟩ := hl
  exact ⟨b, ⟨u, eqV_mono h _ _ _ _ h1, h2, rfl⟩, E2.refl h⟩
 | b2s x =>
  simp only [AOp.run, Option.map_eq_some_iff, Prod.mk.injEq] at hl ⊢
  obtain ⟨u, h1, h2, rfl⟩ := hl
  exact ⟨b, ⟨u, b2s_mono h h1, h2, rfl⟩, E2.refl h⟩
 | s2b x => exact s2b_mono h hk hl
 | slice sz x lo hi mx =>
  simp only [AOp.run] at hl ⊢
  split at hl
  · rename_i hz
    rw [if_pos hz]
    simp only [Option.map_eq_some_iff, Prod.mk.injEq] at hl ⊢
    obtain ⟨u, h1, h2, rfl⟩ := hl
    exact ⟨b, ⟨u, slice_mono h h1, h2, rfl⟩, E2.refl h⟩
  · cases hl
 | append mu sz bytes x y => exact append_mono h hk hl
 | call f xs => exact hc.fn f _ _ _ _ _ h hl
 | callv f xs =>
  simp only [AOp.run, aCallv] at hl ⊢
  split at hl
  · exact hc.fn _ _ _ _ _ _ h hl
  · exact hc.yl _ _ _ _ _ _ h hl
  · cases hl
 | xop e xs => exact xop_mono h hk hl
 | _ =>
  have hp := pure_any (by rfl) hl b
  have hst := still (by simp [AOp.kind]) hl
  subst hst
  exact ⟨b, hp, E2.refl h⟩
end
end Go.Ab
