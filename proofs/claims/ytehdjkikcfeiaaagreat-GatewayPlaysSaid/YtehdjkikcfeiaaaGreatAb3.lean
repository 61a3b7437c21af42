/- The steps that a store and a world take together. -/
import Derived.Test.YtehdjkikcfeiaaaGreatAb2
import Derived.RangeFuncRecord
namespace Go.Ab
open Go.RowKit
section
variable {G : Gh} {σ : St} {w : World}
structure Upd (w w' : World) (b : Nat) : Prop where
 os : w'.os = w.os
 tape : w'.tape = w.tape
 output : w'.output = w.output
 size : w'.heap.size = w.heap.size
 block : ∀ k, k ≠ b → w'.heap[k]? = w.heap[k]?
 here : ∀ (arr : Array Value) (e : TypeId) (fz : Nat × Nat), w.heap[b]? = some (Obj.cells arr e fz) → ∃ arr' : Array Value, w'.heap[b]? = some (Obj.cells arr' e fz) ∧ arr'.size = arr.size
theorem heap_alloc_lt (w : World) (o : Obj) {k : Nat} (h : k < w.heap.size) : (w.alloc o).heap[k]? = w.heap[k]? := Below.heap_alloc w o k h
theorem heap_alloc_at (w : World) (o : Obj) : (w.alloc o).heap[w.heap.size]? = some o := by
 show (w.heap.push o)[w.heap.size]? = _
 simp
theorem lt_of_get {w : World} {b : Nat} {o : Obj} (h : w.heap[b]? = some o) : b < w.heap.size := (Array.getElem?_eq_some_iff.1 h).1
theorem fr_lt (h : Rs G σ w) {b i : Nat} (hi : i < G.fr b) : b < w.heap.size := by
 rcases Nat.lt_or_ge b w.heap.size with hb | hb
 · exact hb
 · rw [h.fr b hb] at hi; omega
theorem Ext.of_grow {G' : Gh} {w' : World} (h : Rs G σ w) (ho : ∀ o x, G.ob o = some x → G'.ob o = some x) (ht : ∀ o x, G.tk o = some x → G'.tk o = some x)
  (hf : ∀ b, b < w.heap.size → G'.fr b = G.fr b) (hb : G'.prot = G.prot) (hbl : Below w.heap.size w w') (hlp : ∀ o x, G.lp o = some x → G'.lp o = some x := by exact fun _ _ h => h) : Ext G w G' w' where
 ob := ho
 tk := ht
 lp := hlp
 fr b := by
  rcases Nat.lt_or_ge b w.heap.size with hl | hl
  · rw [hf b hl]; exact Nat.le_refl _
  · rw [h.fr b hl]; exact Nat.zero_le _
 row b i hi := World.cell?_of_block (a := ⟨b, i, none⟩) (hbl.block b (fr_lt h hi))
 size b arr e fz hbk := ⟨arr, fz, (hbl.block b (lt_of_get hbk)).trans hbk, rfl⟩
 prot := hb
 frp b hb' := hf b (h.prot b hb')
 below := Keeps.of_below hbl h.prot
theorem Ok.grow {G' : Gh} {w' : World} (e : Ext G w G' w') (hf : ∀ b, b < w.heap.size → G'.fr b = G.fr b) (hbl : Below w.heap.size w w') {o : Nat} {x : Ob} (h : Ok G w o x) : Ok G' w' o x := by
 obtain ⟨b0, h0, h1, _⟩ := h.lt
 exact h.ext e fun b hb => by rw [h0] at hb; cases hb; exact ⟨hbl.block _ h1, hf _ h1⟩
theorem Rs.notNew (h : Rs G σ w) : ¬ G.prot w.heap.size := fun hp => Nat.lt_irrefl _ (h.prot _ hp)
theorem Rs.grow {w' : World} (h : Rs G σ w) (hbl : Below w.heap.size w w') : Rs G σ w' ∧ Ext G w G w' := by
 have e : Ext G w G w' := Ext.of_grow h (fun _ _ h => h) (fun _ _ h => h) (fun _ _ => rfl) rfl hbl
 refine ⟨⟨fun o x hx => ⟨(h.ob o x hx).1, Nat.lt_of_lt_of_le (h.ob o x hx).2 hbl.size⟩, h.tk, h.lp, fun b hb => h.fr b (Nat.le_trans hbl.size hb), fun b hb => Nat.lt_of_lt_of_le (h.prot b hb) hbl.size, fun o x hx => (h.ok o x hx).grow e (fun _ _ => rfl) hbl, h.sep⟩, e⟩
theorem Rs.garbage (h : Rs G σ w) (o : Obj) : Rs G σ (w.alloc o) ∧ Ext G w G (w.alloc o) :=
 h.grow ((Below.refl _ w).alloc (Nat.le_refl _) o)
theorem Rs.drew (h : Rs G σ w) : Rs G σ w.drew ∧ Ext G w G w.drew := h.grow ((Below.refl _ w).drew)
theorem Rs.kill (h : Rs G σ w) {o : Nat} (ho : o < σ.n) : Rs G (σ.put o none) w := by
 have hg : ∀ k x, (σ.put o none).get k = some x → σ.get k = some x := by
  intro k x hx
  rw [St.get_put _ _ _ _ ho] at hx
  split at hx
  · cases hx
  · exact hx
 exact ⟨h.ob, h.tk, h.lp, h.fr, h.prot, fun k x hx => h.ok k x (hg k x hx), fun k k' x x' b h1 h2 h3 h4 => h.sep k k' x x' b (hg _ _ h1) (hg _ _ h2) h3 h4⟩
def Gh.addOb (G : Gh) (o : Nat) (x : Nat × Nat) : Gh := { G with ob := fun k => if k = o then some x else G.ob k }
def Gh.addTk (G : Gh) (o : Nat) (x : Nat × Nat) : Gh := { G with tk := fun k => if k = o then some x else G.tk k }
def Gh.setFr (G : Gh) (b n : Nat) : Gh := { G with fr := fun k => if k = b then n else G.fr k }
theorem Rs.ob_n (h : Rs G σ w) : ∀ o x, G.ob o = some x → o ≠ σ.n := fun o x hx => Nat.ne_of_lt (h.ob o x hx).1
theorem Rs.tk_n (h : Rs G σ w) : ∀ o x, G.tk o = some x → o ≠ σ.n := fun o x hx => Nat.ne_of_lt (h.tk o x hx)
theorem Rs.newOb {w' : World} (h : Rs G σ w) (hbl : Below w.heap.size w w') (x : Ob) (hx : x ≠ .tok) (b s : Nat) (hb : w.heap.size ≤ b) (hbs : b < w'.heap.size)
  (hok : Ext G w (G.addOb σ.n (b, s)) w' → Ok (G.addOb σ.n (b, s)) w' σ.n x) :
  Rs (G.addOb σ.n (b, s)) (σ.push x) w' ∧ Ext G w (G.addOb σ.n (b, s)) w' := by
 have e : Ext G w (G.addOb σ.n (b, s)) w' :=
  Ext.of_grow h (fun o y hy => by simp only [Gh.addOb]; rw [if_neg (h.ob_n o y hy)]; exact hy) (fun _ _ h => h) (fun _ _ => rfl) rfl hbl
 have blx : bl (G.addOb σ.n (b, s)) σ.n x = some b := by cases x <;> first | exact absurd rfl hx | simp [bl, Gh.addOb]
 refine ⟨⟨?_, ?_, fun o y hy => Nat.lt_succ_of_lt (h.lp o y hy), fun k hk => h.fr k (Nat.le_trans hbl.size hk), fun b hb => Nat.lt_of_lt_of_le (h.prot b hb) hbl.size, ?_, ?_⟩, e⟩
 · intro o y hy
   simp only [Gh.addOb] at hy
   split at hy
   · rename_i ho; cases hy; subst ho; exact ⟨by simp, hbs⟩
   · have := h.ob o y hy; exact ⟨by simp; omega, Nat.lt_of_lt_of_le this.2 hbl.size⟩
 · intro o y hy; have := h.tk o y hy; simp; omega
 · intro o y hy
   rw [St.get_push] at hy
   split at hy
   · rename_i ho; cases hy; subst ho; exact hok e
   · exact (h.ok o y hy).grow e (fun _ _ => rfl) hbl
 · intro o o' y y' c h1 h2 h3 h4
   rw [St.get_push] at h1 h2
   split at h1 <;> split at h2
   · subst_vars; rfl
   · rename_i ho ho'
     cases h1; subst ho
     rw [blx] at h3; cases h3
     obtain ⟨b0, k0, k1, _⟩ := (h.ok o' y' h2).lt
     rw [bl_ext e k0] at h4; cases h4
     omega
   · rename_i ho ho'
     cases h2; subst ho'
     rw [blx] at h4; cases h4
     obtain ⟨b0, k0, k1, _⟩ := (h.ok o y h1).lt
     rw [bl_ext e k0] at h3; cases h3
     omega
   · obtain ⟨b0, k0, k1, _⟩ := (h.ok o y h1).lt
     obtain ⟨b0', k0', k1', _⟩ := (h.ok o' y' h2).lt
     rw [bl_ext e k0] at h3; cases h3
     rw [bl_ext e k0'] at h4; cases h4
     exact h.sep o o' y y' _ h1 h2 k0 k0'
theorem free_new (w : World) (arr : Array Value) (t : TypeId) {n : Nat} (hn : n ≤ arr.size) : Free (w.alloc (.cells arr t)) w.heap.size n :=
 ⟨arr, t, (0, 0), heap_alloc_at w _, hn, fun j _ hj => by simp at hj⟩
theorem free0_new (w : World) (arr : Array Value) (t : TypeId) {n : Nat} (hn : n ≤ arr.size) : Free0 (w.alloc (.cells arr t)) w.heap.size n :=
 ⟨arr, t, heap_alloc_at w _, hn⟩
theorem at_new (w : World) (arr : Array Value) (t : TypeId) (vals : List Value) (h : ∀ (j : Nat) v, vals[j]? = some v → arr[j]? = some v) : At (w.alloc (.cells arr t)) w.heap.size 0 vals := by
 intro j v hj
 rw [Nat.zero_add, World.cell?_alloc_new]
 exact h j v hj
theorem Rs.newCells (h : Rs G σ w) (cs : List V) (vals : List Value) (hr : RvL G w cs vals) (arr : Array Value) (t : TypeId)
  (hv : ∀ (j : Nat) v, vals[j]? = some v → arr[j]? = some v) (hl : vals.length ≤ arr.size) :
  Rs (G.addOb σ.n (w.heap.size, 0)) (σ.push (.cells cs)) (w.alloc (.cells arr t)) ∧ Ext G w (G.addOb σ.n (w.heap.size, 0)) (w.alloc (.cells arr t)) := by
 refine h.newOb ((Below.refl _ w).alloc (Nat.le_refl _) _) (.cells cs) (by simp) w.heap.size 0 (Nat.le_refl _) (by simp) fun e => ?_
 refine ⟨w.heap.size, 0, vals, by simp [Gh.addOb], RvL.ext e _ _ hr, at_new w arr t vals hv, free0_new w arr t (by rw [Nat.zero_add, ← hr.length]; exact hl), h.fr _ (Nat.le_refl _), h.notNew⟩
theorem Rs.newMap (h : Rs G σ w) (es : List (V × V × Nat)) (ents : Array MapEntry) (c : Nat) (he : EntsR G w es ents.toList) :
  Rs (G.addOb σ.n (w.heap.size, 0)) (σ.push (.map es c)) (w.alloc (.map ents c)) ∧ Ext G w (G.addOb σ.n (w.heap.size, 0)) (w.alloc (.map ents c)) := by
 refine h.newOb ((Below.refl _ w).alloc (Nat.le_refl _) _) (.map es c) (by simp) w.heap.size 0 (Nat.le_refl _) (by simp) fun e => ?_
 exact ⟨w.heap.size, 0, ents, by simp [Gh.addOb], heap_alloc_at w _, he.ext e, h.fr _ (Nat.le_refl _), h.notNew⟩
theorem free_newZ (w : World) (arr : Array Value) (t : TypeId) (fz : Nat × Nat) {n : Nat} (hn : n ≤ arr.size) (hf : ∀ j, j < arr.size → ¬ (fz.1 ≤ j ∧ j < fz.2)) : Free (w.alloc (.cells arr t fz)) w.heap.size n :=
 ⟨arr, t, fz, heap_alloc_at w _, hn, hf⟩
theorem at_newZ (w : World) (arr : Array Value) (t : TypeId) (fz : Nat × Nat) (vals : List Value) (h : ∀ (j : Nat) v, vals[j]? = some v → arr[j]? = some v) : At (w.alloc (.cells arr t fz)) w.heap.size 0 vals := by
 intro j v hj
 simp only [Nat.zero_add, World.cell?, heap_alloc_at, Option.isSome_none, Bool.false_eq_true, if_false]
 exact h j v hj
theorem Rs.newRow (h : Rs G σ w) (arr : Array Value) (t : TypeId) (n : Nat) (fz : Nat × Nat := (0, 0)) :
  Rs (G.setFr w.heap.size n) σ (w.alloc (.cells arr t fz)) ∧ Ext G w (G.setFr w.heap.size n) (w.alloc (.cells arr t fz)) := by
 have hbl : Below w.heap.size w (w.alloc (.cells arr t fz)) := (Below.refl _ w).alloc (Nat.le_refl _) _
 have hf : ∀ b, b < w.heap.size → (G.setFr w.heap.size n).fr b = G.fr b := fun b hb => by simp only [Gh.setFr]; rw [if_neg (by omega)]
 have e : Ext G w (G.setFr w.heap.size n) (w.alloc (.cells arr t fz)) := Ext.of_grow h (fun _ _ h => h) (fun _ _ h => h) hf rfl hbl
 refine ⟨⟨fun o x hx => ⟨(h.ob o x hx).1, Nat.lt_of_lt_of_le (h.ob o x hx).2 hbl.size⟩, h.tk, h.lp, ?_, fun b hb => Nat.lt_of_lt_of_le (h.prot b hb) hbl.size, fun o x hx => (h.ok o x hx).grow e hf hbl, ?_⟩, e⟩
 · intro b hb
   simp only [World.size_alloc] at hb
   simp only [Gh.setFr]; rw [if_neg (by omega)]; exact h.fr b (by omega)
 · intro o o' x x' b h1 h2 h3 h4
   exact h.sep o o' x x' b h1 h2 (by cases x <;> exact h3) (by cases x' <;> exact h4)
theorem row_new (w : World) (G : Gh) (arr : Array Value) (t : TypeId) (vals : List Value) (h : ∀ (j : Nat) v, vals[j]? = some v → arr[j]? = some v) (fz : Nat × Nat := (0, 0)) :
  Row (G.setFr w.heap.size vals.length) (w.alloc (.cells arr t fz)) w.heap.size 0 vals :=
 ⟨fun _ => by simp [Gh.setFr], at_newZ w arr t fz vals h⟩
theorem Rs.newRow_bl (h : Rs G σ w) (n : Nat) : ∀ o x, σ.get o = some x → bl (G.setFr w.heap.size n) o x ≠ some w.heap.size := by
 intro o x hx hb
 obtain ⟨b0, k0, k1, _⟩ := (h.ok o x hx).lt
 have : bl (G.setFr w.heap.size n) o x = some b0 := by cases x <;> exact k0
 rw [this] at hb; cases hb
 exact absurd k1 (Nat.lt_irrefl _)
theorem Rs.newTok (h : Rs G σ w) (b e : Nat) (hf : G.fr b = e) (hfree : Free w b e) (hb : ¬ G.prot b) (hsep : ∀ o x, σ.get o = some x → bl G o x ≠ some b) :
  Rs (G.addTk σ.n (b, e)) (σ.push .tok) w ∧ Ext G w (G.addTk σ.n (b, e)) w := by
 have ex : Ext G w (G.addTk σ.n (b, e)) w :=
  Ext.of_grow h (fun _ _ h => h) (fun o y hy => by simp only [Gh.addTk]; rw [if_neg (h.tk_n o y hy)]; exact hy) (fun _ _ => rfl) rfl (Below.refl _ _)
 have blx : bl (G.addTk σ.n (b, e)) σ.n .tok = some b := by simp [bl, Gh.addTk]
 have blo : ∀ o x, σ.get o = some x → ∀ c, bl (G.addTk σ.n (b, e)) o x = some c → bl G o x = some c := by
  intro o x hx c hc
  obtain ⟨b0, k0, _⟩ := (h.ok o x hx).lt
  rw [bl_ext ex k0] at hc; cases hc; exact k0
 refine ⟨⟨fun o y hy => ⟨Nat.lt_succ_of_lt (h.ob o y hy).1, (h.ob o y hy).2⟩, ?_, fun o y hy => Nat.lt_succ_of_lt (h.lp o y hy), h.fr, h.prot, ?_, ?_⟩, ex⟩
 · intro o y hy
   simp only [Gh.addTk] at hy
   split at hy
   · rename_i ho; subst ho; simp
   · have := h.tk o y hy; simp; omega
 · intro o y hy
   rw [St.get_push] at hy
   split at hy
   · rename_i ho; cases hy; subst ho; exact ⟨b, e, by simp [Gh.addTk], hf, hfree, hb⟩
   · exact (h.ok o y hy).ext ex fun _ _ => ⟨rfl, rfl⟩
 · intro o o' y y' c h1 h2 h3 h4
   rw [St.get_push] at h1 h2
   split at h1 <;> split at h2
   · subst_vars; rfl
   · rename_i ho ho'
     cases h1; subst ho
     rw [blx] at h3; cases h3
     exact absurd (blo o' y' h2 _ h4) (hsep o' y' h2)
   · rename_i ho ho'
     cases h2; subst ho'
     rw [blx] at h4; cases h4
     exact absurd (blo o y h1 _ h3) (hsep o y h1)
   · exact h.sep o o' y y' c h1 h2 (blo o y h1 c h3) (blo o' y' h2 c h4)
theorem Ext.of_upd {w' : World} {b : Nat} (_h : Rs G σ w) (u : Upd w w' b) (hf : G.fr b = 0) (hb : ¬ G.prot b) : Ext G w G w' where
 ob _ _ h := h
 tk _ _ h := h
 lp _ _ h := h
 fr _ := Nat.le_refl _
 row c i hi := World.cell?_of_block (a := ⟨c, i, none⟩) (u.block c (fun e => by subst e; rw [hf] at hi; omega))
 size c arr e fz hc := by
  by_cases hcb : c = b
  · subst hcb
    obtain ⟨arr', h1, h2⟩ := u.here arr e fz hc
    exact ⟨arr', fz, h1, h2⟩
  · exact ⟨arr, fz, (u.block c hcb).trans hc, rfl⟩
 prot := rfl
 frp _ _ := rfl
 below := ⟨u.os, u.tape, u.output, by rw [u.size]; exact Nat.le_refl _, fun k hk => u.block k (fun e => hb (e ▸ hk))⟩
theorem Free.upd {w' : World} {b n : Nat} (h : Free w b n) (u : Upd w w' b) : Free w' b n := by
 obtain ⟨arr, t, fz, h1, h2, h3⟩ := h
 obtain ⟨arr', k1, k2⟩ := u.here arr t fz h1
 exact ⟨arr', t, fz, k1, by omega, by rw [k2]; exact h3⟩
theorem Free0.upd {w' : World} {b n : Nat} (h : Free0 w b n) (u : Upd w w' b) : Free0 w' b n := by
 obtain ⟨arr, t, h1, h2⟩ := h
 obtain ⟨arr', k1, k2⟩ := u.here arr t (0, 0) h1
 exact ⟨arr', t, k1, by omega⟩
theorem Rs.write {w' : World} (h : Rs G σ w) {o : Nat} {cs cs' : List V} {b s : Nat} {vals' : List Value} (ho : σ.get o = some (.cells cs)) (hG : G.ob o = some (b, s))
  (u : Upd w w' b) (hr : RvL G w cs' vals') (hl : cs'.length = cs.length) (hat : At w' b s vals') :
  Rs G (σ.put o (some (.cells cs'))) w' ∧ Ext G w G w' := by
 obtain ⟨b0, s0, vals, k1, k2, k3, k4, k5, k6⟩ := h.ok o _ ho
 rw [hG] at k1; cases k1
 have e := Ext.of_upd h u k5 k6
 have hlt : o < σ.n := St.get_lt ho
 refine ⟨⟨fun o x hx => ⟨(h.ob o x hx).1, by rw [u.size]; exact (h.ob o x hx).2⟩, h.tk, h.lp, fun c hc => h.fr c (by rw [← u.size]; exact hc), fun b hb => by rw [u.size]; exact h.prot b hb, ?_, ?_⟩, e⟩
 · intro p x hx
   rw [St.get_put _ _ _ _ hlt] at hx
   split at hx
   · rename_i hp; cases hx; subst hp
     exact ⟨b, s, vals', hG, RvL.ext e _ _ hr, hat, by rw [hl]; exact k4.upd u, k5, k6⟩
   · rename_i hp
     exact (h.ok p x hx).ext e fun c hc => ⟨u.block c (fun hcb => hp (h.sep p o x _ c hx ho hc (by simp [bl, hG, hcb]))), rfl⟩
 · intro p p' x x' c h1 h2 h3 h4
   rw [St.get_put _ _ _ _ hlt] at h1 h2
   have aux : ∀ q y, (if q = o then some (Ob.cells cs') else σ.get q) = some y → bl G q y = some c → ∃ y', σ.get q = some y' ∧ bl G q y' = some c := by
    intro q y hq hbq
    split at hq
    · rename_i hqo; cases hq; subst hqo; exact ⟨_, ho, hbq⟩
    · exact ⟨y, hq, hbq⟩
   obtain ⟨y, a1, a2⟩ := aux p x h1 h3
   obtain ⟨y', a1', a2'⟩ := aux p' x' h2 h4
   exact h.sep p p' y y' c a1 a1' a2 a2'
theorem Rs.writeMap {w' : World} (h : Rs G σ w) {o : Nat} {es es' : List (V × V × Nat)} {c c' : Nat} {b s : Nat} {ents' : Array MapEntry} (ho : σ.get o = some (.map es c)) (hG : G.ob o = some (b, s))
  (hw : w' = { w with heap := w.heap.setIfInBounds b (.map ents' c') }) (hr : EntsR G w es' ents'.toList) :
  Rs G (σ.put o (some (.map es' c'))) w' ∧ Ext G w G w' := by
 obtain ⟨b0, s0, ents, k1, k2, k3, k5, k6⟩ := h.ok o _ ho
 rw [hG] at k1; cases k1
 have hbl : ∀ k, k ≠ b → w'.heap[k]? = w.heap[k]? := by
  intro k hk; subst hw
  simp only [Array.getElem?_setIfInBounds]; rw [if_neg (by omega)]
 have hsz : w'.heap.size = w.heap.size := by subst hw; simp
 have hhere : w'.heap[b]? = some (.map ents' c') := by
  subst hw
  simp only [Array.getElem?_setIfInBounds]
  simp [lt_of_get k2]
 have e : Ext G w G w' := by
  refine ⟨fun _ _ h => h, fun _ _ h => h, fun _ _ h => h, fun _ => Nat.le_refl _, fun x i hi => World.cell?_of_block (a := ⟨x, i, none⟩) (hbl x (fun e => by subst e; rw [k5] at hi; omega)), ?_, rfl, fun _ _ => rfl,
   ⟨by subst hw; rfl, by subst hw; rfl, by subst hw; rfl, by rw [hsz]; exact Nat.le_refl _, fun k hk => hbl k (fun e => k6 (e ▸ hk))⟩⟩
  intro x arr t fz hx
  by_cases hxb : x = b
  · subst hxb; rw [k2] at hx; cases hx
  · exact ⟨arr, fz, (hbl x hxb).trans hx, rfl⟩
 have hlt : o < σ.n := St.get_lt ho
 refine ⟨⟨fun o x hx => ⟨(h.ob o x hx).1, by rw [hsz]; exact (h.ob o x hx).2⟩, h.tk, h.lp, fun c hc => h.fr c (by rw [← hsz]; exact hc), fun b hb => by rw [hsz]; exact h.prot b hb, ?_, ?_⟩, e⟩
 · intro p x hx
   rw [St.get_put _ _ _ _ hlt] at hx
   split at hx
   · rename_i hp; cases hx; subst hp
     exact ⟨b, s, ents', hG, hhere, hr.ext e, k5, k6⟩
   · rename_i hp
     exact (h.ok p x hx).ext e fun c hc => ⟨hbl c (fun hcb => hp (h.sep p o x _ c hx ho hc (by simp [bl, hG, hcb]))), rfl⟩
 · intro p p' x x' c h1 h2 h3 h4
   rw [St.get_put _ _ _ _ hlt] at h1 h2
   have aux : ∀ q y, (if q = o then some (Ob.map es' c') else σ.get q) = some y → bl G q y = some c → ∃ y', σ.get q = some y' ∧ bl G q y' = some c := by
    intro q y hq hbq
    split at hq
    · rename_i hqo; cases hq; subst hqo; exact ⟨_, ho, hbq⟩
    · exact ⟨y, hq, hbq⟩
   obtain ⟨y, a1, a2⟩ := aux p x h1 h3
   obtain ⟨y', a1', a2'⟩ := aux p' x' h2 h4
   exact h.sep p p' y y' c a1 a1' a2 a2'
theorem Rs.growRow {w' : World} (h : Rs G σ w) {t b e : Nat} (ht : σ.get t = some .tok) (hG : G.tk t = some (b, e)) (u : Upd w w' b)
  (hkeep : ∀ i, i < e → w'.cell? ⟨b, i, none⟩ = w.cell? ⟨b, i, none⟩) (n : Nat) (hfree : Free w b (e + n)) :
  Rs ((G.setFr b (e + n)).addTk σ.n (b, e + n)) ((σ.put t none).push .tok) w' ∧ Ext G w ((G.setFr b (e + n)).addTk σ.n (b, e + n)) w' := by
 obtain ⟨b0, e0, k1, k2, k3, k4⟩ := h.ok t _ ht
 rw [hG] at k1; cases k1
 have hlt : t < σ.n := St.get_lt ht
 have hbl : b < w.heap.size := by obtain ⟨_, _, _, k, _⟩ := k3; exact lt_of_get k
 have ex : Ext G w ((G.setFr b (e + n)).addTk σ.n (b, e + n)) w' := by
  refine ⟨fun _ _ h => h, fun o y hy => by simp only [Gh.addTk, Gh.setFr]; rw [if_neg (h.tk_n o y hy)]; exact hy, fun _ _ h => h, ?_, ?_, ?_, rfl, fun c hc => by simp only [Gh.addTk, Gh.setFr]; rw [if_neg (fun (e : c = b) => k4 (by rw [← e]; exact hc))], ⟨u.os, u.tape, u.output, by rw [u.size]; exact Nat.le_refl _, fun k hk => u.block k (fun e => k4 (e ▸ hk))⟩⟩
  · intro c
    simp only [Gh.addTk, Gh.setFr]
    split
    · subst_vars; omega
    · exact Nat.le_refl _
  · intro c i hi
    by_cases hcb : c = b
    · subst hcb; exact hkeep i (by omega)
    · exact World.cell?_of_block (a := ⟨c, i, none⟩) (u.block c hcb)
  · intro c arr ty fz hc
    by_cases hcb : c = b
    · subst hcb
      obtain ⟨arr', h1, h2⟩ := u.here arr ty fz hc
      exact ⟨arr', fz, h1, h2⟩
    · exact ⟨arr, fz, (u.block c hcb).trans hc, rfl⟩
 have hsep : ∀ o x, σ.get o = some x → o ≠ t → bl G o x ≠ some b := fun o x hx hne hb =>
  hne (h.sep o t x _ b hx ht hb (by simp [bl, hG]))
 have blx : bl ((G.setFr b (e + n)).addTk σ.n (b, e + n)) σ.n .tok = some b := by simp [bl, Gh.addTk]
 have get' : ∀ o x, ((σ.put t none).push .tok).get o = some x → (o = σ.n ∧ x = .tok) ∨ (o ≠ σ.n ∧ o ≠ t ∧ σ.get o = some x) := by
  intro o x hx
  rw [St.get_push, St.n_put] at hx
  split at hx
  · rename_i ho; cases hx; exact Or.inl ⟨ho, rfl⟩
  · rename_i ho
    rw [St.get_put _ _ _ _ hlt] at hx
    split at hx
    · cases hx
    · rename_i hot; exact Or.inr ⟨ho, hot, hx⟩
 have blo : ∀ o x, σ.get o = some x → ∀ c, bl ((G.setFr b (e + n)).addTk σ.n (b, e + n)) o x = some c → bl G o x = some c := by
  intro o x hx c hc
  obtain ⟨b0, k0, _⟩ := (h.ok o x hx).lt
  rw [bl_ext ex k0] at hc; cases hc; exact k0
 refine ⟨⟨fun o y hy => ⟨Nat.lt_succ_of_lt (h.ob o y hy).1, by rw [u.size]; exact (h.ob o y hy).2⟩, ?_, fun o y hy => Nat.lt_succ_of_lt (h.lp o y hy), ?_, fun b hb => by rw [u.size]; exact h.prot b hb, ?_, ?_⟩, ex⟩
 · intro o y hy
   simp only [Gh.addTk] at hy
   split at hy
   · rename_i ho; subst ho; simp
   · have := h.tk o y hy; simp; omega
 · intro c hc
   rw [u.size] at hc
   simp only [Gh.addTk, Gh.setFr]; rw [if_neg (by omega)]; exact h.fr c hc
 · intro o x hx
   rcases get' o x hx with ⟨rfl, rfl⟩ | ⟨h1, h2, h3⟩
   · exact ⟨b, e + n, by simp [Gh.addTk], by simp [Gh.addTk, Gh.setFr], hfree.upd u, k4⟩
   · exact (h.ok o x h3).ext ex fun c hc => by
      have hcb : c ≠ b := fun hcb => hsep o x h3 h2 (hcb ▸ hc)
      exact ⟨u.block c hcb, by simp only [Gh.addTk, Gh.setFr]; rw [if_neg hcb]⟩
 · intro o o' y y' c h1 h2 h3 h4
   rcases get' o y h1 with ⟨rfl, rfl⟩ | ⟨a1, a2, a3⟩ <;> rcases get' o' y' h2 with ⟨rfl, rfl⟩ | ⟨a1', a2', a3'⟩
   · rfl
   · rw [blx] at h3; cases h3
     exact absurd (blo o' y' a3' _ h4) (hsep o' y' a3' a2')
   · rw [blx] at h4; cases h4
     exact absurd (blo o y a3 _ h3) (hsep o y a3 a2)
   · exact h.sep o o' y y' c a3 a3' (blo o y a3 c h3) (blo o' y' a3' c h4)
theorem Rs.newLoop (h : Rs G σ w) (r : Loop) (hst : r.state = .ready) (hp : r.pending = none) :
  Rs { G.addOb σ.n (w.heap.size, 0) with lp := fun k => if k = σ.n then some r else G.lp k } (σ.push (.loop .ready none)) (w.alloc (.loop r)) ∧
   Ext G w { G.addOb σ.n (w.heap.size, 0) with lp := fun k => if k = σ.n then some r else G.lp k } (w.alloc (.loop r)) := by
 have hbl : Below w.heap.size w (w.alloc (.loop r)) := (Below.refl _ w).alloc (Nat.le_refl _) _
 have hlp : ∀ o x, G.lp o = some x → o ≠ σ.n := fun o x hx => Nat.ne_of_lt (h.lp o x hx)
 have e : Ext G w { G.addOb σ.n (w.heap.size, 0) with lp := fun k => if k = σ.n then some r else G.lp k } (w.alloc (.loop r)) :=
  Ext.of_grow h (fun o y hy => by simp only [Gh.addOb]; rw [if_neg (h.ob_n o y hy)]; exact hy) (fun _ _ h => h) (fun _ _ => rfl) rfl hbl (fun o y hy => by simp only; rw [if_neg (hlp o y hy)]; exact hy)
 have blx : bl { G.addOb σ.n (w.heap.size, 0) with lp := fun k => if k = σ.n then some r else G.lp k } σ.n (.loop .ready none) = some w.heap.size := by simp [bl, Gh.addOb]
 refine ⟨⟨?_, ?_, ?_, fun k hk => h.fr k (Nat.le_trans hbl.size hk), fun b hb => Nat.lt_of_lt_of_le (h.prot b hb) hbl.size, ?_, ?_⟩, e⟩
 · intro o y hy
   simp only [Gh.addOb] at hy
   split at hy
   · rename_i ho; cases hy; subst ho; exact ⟨by simp, by simp⟩
   · have := h.ob o y hy; exact ⟨by simp; omega, Nat.lt_of_lt_of_le this.2 hbl.size⟩
 · intro o y hy; have := h.tk o y hy; simp; omega
 · intro o y hy
   simp only at hy
   split at hy
   · rename_i ho; subst ho; simp
   · have := h.lp o y hy; simp; omega
 · intro o y hy
   rw [St.get_push] at hy
   split at hy
   · rename_i ho; cases hy; subst ho
     refine ⟨w.heap.size, 0, r, by simp [Gh.addOb], by simp, ?_, h.fr _ (Nat.le_refl _), h.notNew⟩
     rw [heap_alloc_at]
     cases r; simp only at hst hp; subst hst; subst hp; rfl
   · exact (h.ok o y hy).grow e (fun _ _ => rfl) hbl
 · intro o o' y y' c h1 h2 h3 h4
   rw [St.get_push] at h1 h2
   split at h1 <;> split at h2
   · subst_vars; rfl
   · rename_i ho ho'
     cases h1; subst ho
     rw [blx] at h3; cases h3
     obtain ⟨b0, k0, k1, _⟩ := (h.ok o' y' h2).lt
     rw [bl_ext e k0] at h4; cases h4
     omega
   · rename_i ho ho'
     cases h2; subst ho'
     rw [blx] at h4; cases h4
     obtain ⟨b0, k0, k1, _⟩ := (h.ok o y h1).lt
     rw [bl_ext e k0] at h3; cases h3
     omega
   · obtain ⟨b0, k0, k1, _⟩ := (h.ok o y h1).lt
     obtain ⟨b0', k0', k1', _⟩ := (h.ok o' y' h2).lt
     rw [bl_ext e k0] at h3; cases h3
     rw [bl_ext e k0'] at h4; cases h4
     exact h.sep o o' y y' _ h1 h2 k0 k0'
theorem Rs.setLoop (h : Rs G σ w) {k b s : Nat} {st : LoopState} {pe : Option Ex} {r r' : Loop} (hk : σ.get k = some (.loop st pe)) (hG : G.ob k = some (b, s)) (hr : G.lp k = some r) (x : Option Ob)
  (hx : x = none ∨ ∃ st' pe', x = some (.loop st' pe') ∧ r' = { r with state := st', pending := pe'.bind Ex.code }) :
  Rs G (σ.put k x) (w.putObj b (.loop r')) ∧ Ext G w G (w.putObj b (.loop r')) := by
 obtain ⟨b0, s0, r0, k1, k2, k3, k5, k6⟩ := h.ok k _ hk
 rw [hG] at k1; cases k1
 rw [hr] at k2; cases k2
 have hblt := lt_of_get k3
 have hbl : ∀ c, c ≠ b → (w.putObj b (.loop r')).heap[c]? = w.heap[c]? := fun c hc => World.putObj_heap_other hc
 have hsz : (w.putObj b (.loop r')).heap.size = w.heap.size := by simp [World.putObj]
 have hhere : (w.putObj b (.loop r')).heap[b]? = some (.loop r') := by
  simp [World.putObj, hblt]
 have e : Ext G w G (w.putObj b (.loop r')) := by
  refine ⟨fun _ _ h => h, fun _ _ h => h, fun _ _ h => h, fun _ => Nat.le_refl _, fun x i hi => World.cell?_of_block (a := ⟨x, i, none⟩) (hbl x (fun e => by subst e; rw [k5] at hi; omega)), ?_, rfl, fun _ _ => rfl,
   ⟨rfl, rfl, rfl, by rw [hsz]; exact Nat.le_refl _, fun c hc => hbl c (fun e => k6 (e ▸ hc))⟩⟩
  intro x arr t fz hx
  by_cases hxb : x = b
  · subst hxb; rw [k3] at hx; cases hx
  · exact ⟨arr, fz, (hbl x hxb).trans hx, rfl⟩
 have hlt : k < σ.n := St.get_lt hk
 have aux : ∀ q y c, (if q = k then x else σ.get q) = some y → bl G q y = some c → ∃ y', σ.get q = some y' ∧ bl G q y' = some c := by
  intro q y c hq hbq
  split at hq
  · rename_i hqk; subst hqk
    rcases hx with rfl | ⟨st', pe', rfl, _⟩
    · cases hq
    · cases hq; exact ⟨_, hk, hbq⟩
  · exact ⟨y, hq, hbq⟩
 refine ⟨⟨fun o x hx => ⟨(h.ob o x hx).1, by rw [hsz]; exact (h.ob o x hx).2⟩, h.tk, h.lp, fun c hc => h.fr c (by rw [← hsz]; exact hc), fun b hb => by rw [hsz]; exact h.prot b hb, ?_, ?_⟩, e⟩
 · intro p y hy
   rw [St.get_put _ _ _ _ hlt] at hy
   split at hy
   · rename_i hp; subst hp
     rcases hx with rfl | ⟨st', pe', rfl, rfl⟩
     · cases hy
     · cases hy
       exact ⟨b, s, r, hG, hr, hhere, k5, k6⟩
   · rename_i hp
     exact (h.ok p y hy).ext e fun c hc => ⟨hbl c (fun hcb => hp (h.sep p k y _ c hy hk hc (by simp [bl, hG, hcb]))), rfl⟩
 · intro p p' y y' c h1 h2 h3 h4
   rw [St.get_put _ _ _ _ hlt] at h1 h2
   obtain ⟨z, a1, a2⟩ := aux p y c h1 h3
   obtain ⟨z', a1', a2'⟩ := aux p' y' c h2 h4
   exact h.sep p p' z z' c a1 a1' a2 a2'
theorem Rs.reOb {w' : World} (h : Rs G σ w) {o : Nat} {cs cs' : List V} {b s s' : Nat} {vals' : List Value} (ho : σ.get o = some (.cells cs)) (hG : G.ob o = some (b, s))
  (u : Upd w w' b) (hr : RvL G w cs' vals') (hat : At w' b s' vals') (hfree : Free0 w b (s' + cs'.length)) :
  Rs (G.addOb σ.n (b, s')) ((σ.put o none).push (.cells cs')) w' ∧ Ext G w (G.addOb σ.n (b, s')) w' := by
 obtain ⟨b0, s0, vals, k1, k2, k3, k4, k5, k6⟩ := h.ok o _ ho
 rw [hG] at k1; cases k1
 have e1 := Ext.of_upd h u k5 k6
 have hlt : o < σ.n := St.get_lt ho
 have hbl : b < w.heap.size := (h.ob o _ hG).2
 have ex : Ext G w (G.addOb σ.n (b, s')) w' :=
  ⟨fun p y hy => by simp only [Gh.addOb]; rw [if_neg (h.ob_n p y hy)]; exact hy, e1.tk, e1.lp, e1.fr, e1.row, e1.size, rfl, fun _ _ => rfl, e1.below⟩
 have hsep : ∀ p x, σ.get p = some x → p ≠ o → bl G p x ≠ some b := fun p x hx hne hb =>
  hne (h.sep p o x _ b hx ho hb (by simp [bl, hG]))
 have blx : bl (G.addOb σ.n (b, s')) σ.n (.cells cs') = some b := by simp [bl, Gh.addOb]
 have get' : ∀ p x, ((σ.put o none).push (.cells cs')).get p = some x → (p = σ.n ∧ x = .cells cs') ∨ (p ≠ σ.n ∧ p ≠ o ∧ σ.get p = some x) := by
  intro p x hx
  rw [St.get_push, St.n_put] at hx
  split at hx
  · rename_i ho; cases hx; exact Or.inl ⟨ho, rfl⟩
  · rename_i ho'
    rw [St.get_put _ _ _ _ hlt] at hx
    split at hx
    · cases hx
    · rename_i hot; exact Or.inr ⟨ho', hot, hx⟩
 have blo : ∀ p x, σ.get p = some x → ∀ c, bl (G.addOb σ.n (b, s')) p x = some c → bl G p x = some c := by
  intro p x hx c hc
  obtain ⟨b0, k0, _⟩ := (h.ok p x hx).lt
  rw [bl_ext ex k0] at hc; cases hc; exact k0
 refine ⟨⟨?_, fun p y hy => Nat.lt_succ_of_lt (h.tk p y hy), fun p y hy => Nat.lt_succ_of_lt (h.lp p y hy), fun c hc => h.fr c (by rw [← u.size]; exact hc), fun b hb => by rw [u.size]; exact h.prot b hb, ?_, ?_⟩, ex⟩
 · intro p y hy
   simp only [Gh.addOb] at hy
   split at hy
   · rename_i hp; cases hy; subst hp; exact ⟨by simp, by rw [u.size]; exact hbl⟩
   · have := h.ob p y hy; exact ⟨by simp; omega, by rw [u.size]; exact this.2⟩
 · intro p x hx
   rcases get' p x hx with ⟨rfl, rfl⟩ | ⟨h1, h2, h3⟩
   · exact ⟨b, s', vals', by simp [Gh.addOb], RvL.ext ex _ _ hr, hat, hfree.upd u, k5, k6⟩
   · exact (h.ok p x h3).ext ex fun c hc => ⟨u.block c (fun hcb => hsep p x h3 h2 (hcb ▸ hc)), rfl⟩
 · intro p p' y y' c h1 h2 h3 h4
   rcases get' p y h1 with ⟨rfl, rfl⟩ | ⟨a1, a2, a3⟩ <;> rcases get' p' y' h2 with ⟨rfl, rfl⟩ | ⟨a1', a2', a3'⟩
   · rfl
   · rw [blx] at h3; cases h3
     exact absurd (blo p' y' a3' _ h4) (hsep p' y' a3' a2')
   · rw [blx] at h4; cases h4
     exact absurd (blo p y a3 _ h3) (hsep p y a3 a2)
   · exact h.sep p p' y y' c a3 a3' (blo p y a3 c h3) (blo p' y' a3' c h4)
end
end Go.Ab
