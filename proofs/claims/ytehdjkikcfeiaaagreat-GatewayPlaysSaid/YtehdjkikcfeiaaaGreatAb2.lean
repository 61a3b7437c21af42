/- The relation between the abstract store and a world of the model, and how it is kept. -/
import Derived.Test.YtehdjkikcfeiaaaGreatAb1
namespace Go.Ab
open Go.RowKit
structure Gh where
 ob : Nat → Option (Nat × Nat)
 tk : Nat → Option (Nat × Nat)
 fr : Nat → Nat
 prot : Nat → Prop
 lp : Nat → Option Loop
def Gh.withProt (G : Gh) (p : Nat → Prop) : Gh := { G with prot := p }
def At (w : World) (b s : Nat) (vals : List Value) : Prop := ∀ j v, vals[j]? = some v → w.cell? ⟨b, s + j, none⟩ = some v
def Row (G : Gh) (w : World) (b s : Nat) (vals : List Value) : Prop := (vals ≠ [] → s + vals.length ≤ G.fr b) ∧ At w b s vals
def Free (w : World) (b : Nat) (n : Nat) : Prop := ∃ arr e fz, w.heap[b]? = some (.cells arr e fz) ∧ n ≤ arr.size ∧ ∀ j, j < arr.size → ¬ (fz.1 ≤ j ∧ j < fz.2)
def Free0 (w : World) (b : Nat) (n : Nat) : Prop := ∃ arr e, w.heap[b]? = some (.cells arr e (0, 0)) ∧ n ≤ arr.size
theorem Free0.free {w : World} {b n : Nat} (h : Free0 w b n) : Free w b n := by
 obtain ⟨arr, e, h1, h2⟩ := h
 exact ⟨arr, e, (0, 0), h1, h2, fun j _ hj => by simp at hj⟩
def HasSize (w : World) (b n : Nat) : Prop := ∃ arr e fz, w.heap[b]? = some (.cells arr e fz) ∧ arr.size = n
def OwnOk (G : Gh) (w : World) (b s n sz len cap : Nat) : Own → Prop
 | .exact => cap = len
 | .ro => True
 | .tok t => G.tk t = some (b, s + n) ∧ HasSize w b (s + cap * sz)
mutual
def Rv (G : Gh) (w : World) : V → Value → Prop
 | .sc a, v => v = a.val
 | .str l, v => ∃ s : ByteArray, v = .string s ∧ s.data.toList = l
 | .ptr o off, v => ∃ b s, G.ob o = some (b, s) ∧ v = .pointer (some ⟨b, s + off, none⟩)
 | .elt cells off, v => ∃ b s vals, v = .pointer (some ⟨b, s + off, none⟩) ∧ Row G w b s vals ∧ RvL G w cells vals
 | .vs own sz len cells, v => ∃ b s cap vals, v = .slice (some ⟨b, s, none⟩) len cap ∧ cells.length = len * sz ∧ len ≤ cap ∧ Row G w b s vals ∧
   RvL G w cells vals ∧ OwnOk G w b s cells.length sz len cap own
 | .os o off sz len lim, v => ∃ b s cap, G.ob o = some (b, s) ∧ v = .slice (some ⟨b, s + off, none⟩) len cap ∧ len ≤ cap ∧
   match lim with
   | some c => cap = c
   | none => HasSize w b (s + off + cap * sz)
 | .mp o, v => ∃ b s, G.ob o = some (b, s) ∧ v = .map (some b)
 | .yl o, v => ∃ b s, G.ob o = some (b, s) ∧ v = .func (.yield b) #[] #[]
 | .fn f first captured, v => ∃ fs cs, v = .func f fs.toArray cs.toArray ∧ RvL G w first fs ∧ RvL G w captured cs
 | .ifc t x, v => ∃ y, v = .iface t y ∧ Rv G w x y
 | .agg cells, v => ∃ vs, v = .agg vs.toArray ∧ RvL G w cells vs
 | .tup xs, v => ∃ vs, v = .tuple vs.toArray ∧ RvL G w xs vs
def RvL (G : Gh) (w : World) : List V → List Value → Prop
 | [], l => l = []
 | x :: xs, l => ∃ v vs, l = v :: vs ∧ Rv G w x v ∧ RvL G w xs vs
end
structure Keeps (p : Nat → Prop) (w w' : World) : Prop where
 os : w'.os = w.os
 tape : w'.tape = w.tape
 output : w'.output = w.output
 size : w.heap.size ≤ w'.heap.size
 block : ∀ k, p k → w'.heap[k]? = w.heap[k]?
theorem Keeps.refl (p : Nat → Prop) (w : World) : Keeps p w w := ⟨rfl, rfl, rfl, Nat.le_refl _, fun _ _ => rfl⟩
theorem Keeps.trans {p : Nat → Prop} {a b c : World} (h : Keeps p a b) (k : Keeps p b c) : Keeps p a c :=
 ⟨k.os.trans h.os, k.tape.trans h.tape, k.output.trans h.output, Nat.le_trans h.size k.size, fun i hi => (k.block i hi).trans (h.block i hi)⟩
theorem Keeps.of_below {p : Nat → Prop} {w w' : World} (h : Below w.heap.size w w') (hp : ∀ k, p k → k < w.heap.size) : Keeps p w w' :=
 ⟨h.os, h.tape, h.output, h.size, fun k hk => h.block k (hp k hk)⟩
theorem Keeps.sub {p q : Nat → Prop} {w w' : World} (h : Keeps p w w') (hq : ∀ k, q k → p k) : Keeps q w w' :=
 ⟨h.os, h.tape, h.output, h.size, fun k hk => h.block k (hq k hk)⟩
structure Ext (G : Gh) (w : World) (G' : Gh) (w' : World) : Prop where
 ob : ∀ o x, G.ob o = some x → G'.ob o = some x
 tk : ∀ t x, G.tk t = some x → G'.tk t = some x
 lp : ∀ t x, G.lp t = some x → G'.lp t = some x
 fr : ∀ b, G.fr b ≤ G'.fr b
 row : ∀ b i, i < G.fr b → w'.cell? ⟨b, i, none⟩ = w.cell? ⟨b, i, none⟩
 size : ∀ (b : Nat) (arr : Array Value) (e : TypeId) (fz : Nat × Nat), w.heap[b]? = some (Obj.cells arr e fz) → ∃ (arr' : Array Value) (fz' : Nat × Nat), w'.heap[b]? = some (Obj.cells arr' e fz') ∧ arr'.size = arr.size
 prot : G'.prot = G.prot
 frp : ∀ b, G.prot b → G'.fr b = G.fr b
 below : Keeps G.prot w w'
theorem Ext.refl (G : Gh) (w : World) : Ext G w G w :=
 ⟨fun _ _ h => h, fun _ _ h => h, fun _ _ h => h, fun _ => Nat.le_refl _, fun _ _ _ => rfl, fun _ arr _ fz h => ⟨arr, fz, h, rfl⟩, rfl, fun _ _ => rfl, Keeps.refl _ _⟩
theorem Ext.trans {G G' G'' : Gh} {w w' w'' : World} (h : Ext G w G' w') (k : Ext G' w' G'' w'') : Ext G w G'' w'' where
 ob o x hx := k.ob o x (h.ob o x hx)
 tk o x hx := k.tk o x (h.tk o x hx)
 lp o x hx := k.lp o x (h.lp o x hx)
 fr b := Nat.le_trans (h.fr b) (k.fr b)
 row b i hi := (k.row b i (Nat.lt_of_lt_of_le hi (h.fr b))).trans (h.row b i hi)
 size b arr e fz hb := by
  obtain ⟨a1, f1, h1, s1⟩ := h.size b arr e fz hb
  obtain ⟨a2, f2, h2, s2⟩ := k.size b a1 e f1 h1
  exact ⟨a2, f2, h2, s2.trans s1⟩
 prot := k.prot.trans h.prot
 frp b hb := (k.frp b (by rw [h.prot]; exact hb)).trans (h.frp b hb)
 below := h.below.trans (h.prot ▸ k.below)
theorem HasSize.ext {G G' : Gh} {w w' : World} {b n : Nat} (h : HasSize w b n) (x : Ext G w G' w') : HasSize w' b n := by
 obtain ⟨arr, e, fz, hb, hs⟩ := h
 obtain ⟨arr', fz', hb', hs'⟩ := x.size b arr e fz hb
 exact ⟨arr', e, fz', hb', hs'.trans hs⟩
theorem Row.ext {G G' : Gh} {w w' : World} {b s : Nat} {vals : List Value} (h : Row G w b s vals) (x : Ext G w G' w') : Row G' w' b s vals := by
 refine ⟨fun hn => Nat.le_trans (h.1 hn) (x.fr b), fun j v hj => ?_⟩
 have hne : vals ≠ [] := by rintro rfl; simp at hj
 have hl : j < vals.length := (List.getElem?_eq_some_iff.1 hj).1
 rw [x.row b (s + j) (by have := h.1 hne; omega)]
 exact h.2 j v hj
theorem OwnOk.ext {G G' : Gh} {w w' : World} {b s n sz len cap : Nat} {own : Own} (h : OwnOk G w b s n sz len cap own) (x : Ext G w G' w') : OwnOk G' w' b s n sz len cap own := by
 cases own with
 | exact => exact h
 | ro => exact h
 | tok t => exact ⟨x.tk _ _ h.1, h.2.ext x⟩
mutual
theorem Rv.ext {G G' : Gh} {w w' : World} (e : Ext G w G' w') : ∀ (x : V) (v : Value), Rv G w x v → Rv G' w' x v
 | .sc a, v, h => by simpa only [Rv] using h
 | .str l, v, h => by simpa only [Rv] using h
 | .ptr o off, v, h => by
  simp only [Rv] at h ⊢
  obtain ⟨b, s, h1, h2⟩ := h
  exact ⟨b, s, e.ob _ _ h1, h2⟩
 | .elt cells off, v, h => by
  simp only [Rv] at h ⊢
  obtain ⟨b, s, vals, h1, h2, h3⟩ := h
  exact ⟨b, s, vals, h1, h2.ext e, RvL.ext e _ _ h3⟩
 | .vs own sz len cells, v, h => by
  simp only [Rv] at h ⊢
  obtain ⟨b, s, cap, vals, h1, h2, h3, h4, h5, h6⟩ := h
  exact ⟨b, s, cap, vals, h1, h2, h3, h4.ext e, RvL.ext e _ _ h5, h6.ext e⟩
 | .os o off sz len lim, v, h => by
  simp only [Rv] at h ⊢
  obtain ⟨b, s, cap, h1, h2, h3, h4⟩ := h
  refine ⟨b, s, cap, e.ob _ _ h1, h2, h3, ?_⟩
  cases lim with
  | some c => exact h4
  | none => exact HasSize.ext h4 e
 | .mp o, v, h => by
  simp only [Rv] at h ⊢
  obtain ⟨b, s, h1, h2⟩ := h
  exact ⟨b, s, e.ob _ _ h1, h2⟩
 | .yl o, v, h => by
  simp only [Rv] at h ⊢
  obtain ⟨b, s, h1, h2⟩ := h
  exact ⟨b, s, e.ob _ _ h1, h2⟩
 | .fn f first captured, v, h => by
  simp only [Rv] at h ⊢
  obtain ⟨fs, cs, h1, h2, h3⟩ := h
  exact ⟨fs, cs, h1, RvL.ext e _ _ h2, RvL.ext e _ _ h3⟩
 | .ifc t x, v, h => by
  simp only [Rv] at h ⊢
  obtain ⟨y, h1, h2⟩ := h
  exact ⟨y, h1, Rv.ext e _ _ h2⟩
 | .agg cells, v, h => by
  simp only [Rv] at h ⊢
  obtain ⟨vs, h1, h2⟩ := h
  exact ⟨vs, h1, RvL.ext e _ _ h2⟩
 | .tup xs, v, h => by
  simp only [Rv] at h ⊢
  obtain ⟨vs, h1, h2⟩ := h
  exact ⟨vs, h1, RvL.ext e _ _ h2⟩
theorem RvL.ext {G G' : Gh} {w w' : World} (e : Ext G w G' w') : ∀ (xs : List V) (l : List Value), RvL G w xs l → RvL G' w' xs l
 | [], l, h => by simpa only [RvL] using h
 | x :: xs, l, h => by
  simp only [RvL] at h ⊢
  obtain ⟨v, vs, h1, h2, h3⟩ := h
  exact ⟨v, vs, h1, Rv.ext e _ _ h2, RvL.ext e _ _ h3⟩
end
theorem RvL.nil {G : Gh} {w : World} : RvL G w [] [] := by simp only [RvL]
theorem RvL.cons {G : Gh} {w : World} {x : V} {v : Value} {xs : List V} {vs : List Value} (h : Rv G w x v) (hs : RvL G w xs vs) : RvL G w (x :: xs) (v :: vs) := by
 simp only [RvL]; exact ⟨v, vs, rfl, h, hs⟩
theorem RvL.one {G : Gh} {w : World} {x : V} {v : Value} (h : Rv G w x v) : RvL G w [x] [v] := RvL.cons h RvL.nil
theorem RvL.length {G : Gh} {w : World} : ∀ {xs : List V} {l : List Value}, RvL G w xs l → l.length = xs.length
 | [], l, h => by simp only [RvL] at h; subst h; rfl
 | x :: xs, l, h => by
  simp only [RvL] at h
  obtain ⟨v, vs, rfl, _, h3⟩ := h
  simp [RvL.length h3]
theorem RvL.getElem? {G : Gh} {w : World} : ∀ {xs : List V} {l : List Value}, RvL G w xs l → ∀ (j : Nat) (x : V), xs[j]? = some x → ∃ v : Value, l[j]? = some v ∧ Rv G w x v
 | [], l, h, j, x, hx => by simp at hx
 | y :: xs, l, h, j, x, hx => by
  simp only [RvL] at h
  obtain ⟨v, vs, rfl, h2, h3⟩ := h
  cases j with
  | zero => simp at hx; subst hx; exact ⟨v, rfl, h2⟩
  | succ j => simpa using RvL.getElem? h3 j x (by simpa using hx)
theorem RvL.append {G : Gh} {w : World} : ∀ {xs ys : List V} {l m : List Value}, RvL G w xs l → RvL G w ys m → RvL G w (xs ++ ys) (l ++ m)
 | [], ys, l, m, h, k => by simp only [RvL] at h; subst h; exact k
 | x :: xs, ys, l, m, h, k => by
  simp only [RvL] at h
  obtain ⟨v, vs, rfl, h2, h3⟩ := h
  exact RvL.cons h2 (RvL.append h3 k)
theorem RvL.take {G : Gh} {w : World} : ∀ {xs : List V} {l : List Value} (n : Nat), RvL G w xs l → RvL G w (xs.take n) (l.take n)
 | _, _, 0, _ => by simp only [List.take_zero]; exact RvL.nil
 | [], l, n + 1, h => by simp only [RvL] at h; subst h; exact RvL.nil
 | x :: xs, l, n + 1, h => by
  simp only [RvL] at h
  obtain ⟨v, vs, rfl, h2, h3⟩ := h
  exact RvL.cons h2 (RvL.take n h3)
theorem RvL.drop {G : Gh} {w : World} : ∀ {xs : List V} {l : List Value} (n : Nat), RvL G w xs l → RvL G w (xs.drop n) (l.drop n)
 | _, _, 0, h => h
 | [], l, n + 1, h => by simp only [RvL] at h; subst h; exact RvL.nil
 | x :: xs, l, n + 1, h => by
  simp only [RvL] at h
  obtain ⟨v, vs, rfl, h2, h3⟩ := h
  simpa using RvL.drop n h3
theorem RvL.replicate {G : Gh} {w : World} {x : V} {v : Value} (h : Rv G w x v) : ∀ n, RvL G w (List.replicate n x) (List.replicate n v)
 | 0 => RvL.nil
 | n + 1 => RvL.cons h (RvL.replicate h n)
theorem RvL.set {G : Gh} {w : World} : ∀ {xs : List V} {l : List Value} (n : Nat) {x : V} {v : Value}, RvL G w xs l → Rv G w x v → RvL G w (xs.set n x) (l.set n v)
 | [], l, n, x, v, h, k => by simp only [RvL] at h; subst h; exact RvL.nil
 | y :: xs, l, 0, x, v, h, k => by
  simp only [RvL] at h
  obtain ⟨u, vs, rfl, h2, h3⟩ := h
  exact RvL.cons k h3
 | y :: xs, l, n + 1, x, v, h, k => by
  simp only [RvL] at h
  obtain ⟨u, vs, rfl, h2, h3⟩ := h
  exact RvL.cons h2 (RvL.set n h3 k)
theorem Rv.sc {G : Gh} {w : World} {a : Sc} : Rv G w (.sc a) a.val := by simp only [Rv]
theorem Rv.int {G : Gh} {w : World} {k : IntKind} {n : Int} : Rv G w (.sc (.int k n)) (.int k n) := by simp only [Rv, Sc.val]
theorem Rv.bool {G : Gh} {w : World} {b : Bool} : Rv G w (.sc (.bool b)) (.bool b) := by simp only [Rv, Sc.val]
theorem scv {G : Gh} {w : World} {a : Sc} {v : Value} (h : Rv G w (.sc a) v) : v = a.val := by simpa only [Rv] using h
theorem Rv.undef {G : Gh} {w : World} : Rv G w V.undef undef := by
 unfold V.undef; simp only [Rv]; exact ⟨[], rfl, RvL.nil⟩
def V.oneCell : V → Bool
 | .agg _ | .tup _ => false
 | _ => true
theorem Rv.cells {G : Gh} {w : World} {x : V} {v : Value} (h : Rv G w x v) : RvL G w x.cellsOf v.cells.toList := by
 cases x with
 | agg cs => simp only [Rv] at h; obtain ⟨vs, rfl, h2⟩ := h; simpa [V.cellsOf, Value.cells] using h2
 | sc a =>
  have hr : Rv G w (.sc a) v := h
  simp only [Rv] at h
  subst h
  cases a <;> simp [V.cellsOf, Value.cells, Sc.val] <;> exact RvL.one hr
 | str l => have h' := h; simp only [Rv] at h; obtain ⟨s, rfl, _⟩ := h; simpa [V.cellsOf, Value.cells] using RvL.one h'
 | ptr o off => have h' := h; simp only [Rv] at h; obtain ⟨b, s, _, rfl⟩ := h; simpa [V.cellsOf, Value.cells] using RvL.one h'
 | elt cs off => have h' := h; simp only [Rv] at h; obtain ⟨b, s, _, rfl, _⟩ := h; simpa [V.cellsOf, Value.cells] using RvL.one h'
 | vs own sz len cs => have h' := h; simp only [Rv] at h; obtain ⟨b, s, _, _, rfl, _⟩ := h; simpa [V.cellsOf, Value.cells] using RvL.one h'
 | os o off sz len lim => have h' := h; simp only [Rv] at h; obtain ⟨b, s, _, _, rfl, _⟩ := h; simpa [V.cellsOf, Value.cells] using RvL.one h'
 | mp o => have h' := h; simp only [Rv] at h; obtain ⟨b, s, _, rfl⟩ := h; simpa [V.cellsOf, Value.cells] using RvL.one h'
 | yl o => have h' := h; simp only [Rv] at h; obtain ⟨b, s, _, rfl⟩ := h; simpa [V.cellsOf, Value.cells] using RvL.one h'
 | fn f a c => have h' := h; simp only [Rv] at h; obtain ⟨b, s, rfl, _⟩ := h; simpa [V.cellsOf, Value.cells] using RvL.one h'
 | ifc t y => have h' := h; simp only [Rv] at h; obtain ⟨y, rfl, _⟩ := h; simpa [V.cellsOf, Value.cells] using RvL.one h'
 | tup xs => have h' := h; simp only [Rv] at h; obtain ⟨y, rfl, _⟩ := h; simpa [V.cellsOf, Value.cells] using RvL.one h'
def EntsR (G : Gh) (w : World) : List (V × V × Nat) → List MapEntry → Prop
 | [], l => l = []
 | (k, x, n) :: es, l => ∃ e l', l = e :: l' ∧ Rv G w k e.key ∧ Rv G w x e.val ∧ e.born = n ∧ EntsR G w es l'
theorem EntsR.ext {G G' : Gh} {w w' : World} (e : Ext G w G' w') : ∀ {es : List (V × V × Nat)} {l : List MapEntry}, EntsR G w es l → EntsR G' w' es l
 | [], l, h => h
 | (k, x, n) :: es, l, h => by
  obtain ⟨m, l', h1, h2, h3, h4, h5⟩ := h
  exact ⟨m, l', h1, Rv.ext e _ _ h2, Rv.ext e _ _ h3, h4, EntsR.ext e h5⟩
def Ex.code : Ex → Option Code
 | .normal => none
 | .exit i => some (.exit i)
 | .ret => some .ret
def Ok (G : Gh) (w : World) (o : Nat) : Ob → Prop
 | .cells cs => ∃ b s vals, G.ob o = some (b, s) ∧ RvL G w cs vals ∧ At w b s vals ∧ Free0 w b (s + cs.length) ∧ G.fr b = 0 ∧ ¬ G.prot b
 | .map es clock => ∃ b s ents, G.ob o = some (b, s) ∧ w.heap[b]? = some (.map ents clock) ∧ EntsR G w es ents.toList ∧ G.fr b = 0 ∧ ¬ G.prot b
 | .tok => ∃ b e, G.tk o = some (b, e) ∧ G.fr b = e ∧ Free w b e ∧ ¬ G.prot b
 | .loop st pe => ∃ b s r, G.ob o = some (b, s) ∧ G.lp o = some r ∧ w.heap[b]? = some (.loop { r with state := st, pending := pe.bind Ex.code }) ∧ G.fr b = 0 ∧ ¬ G.prot b
def bl (G : Gh) (o : Nat) : Ob → Option Nat
 | .tok => (G.tk o).map (·.1)
 | _ => (G.ob o).map (·.1)
structure Rs (G : Gh) (σ : St) (w : World) : Prop where
 ob : ∀ o x, G.ob o = some x → o < σ.n ∧ x.1 < w.heap.size
 tk : ∀ o x, G.tk o = some x → o < σ.n
 lp : ∀ o x, G.lp o = some x → o < σ.n
 fr : ∀ b, w.heap.size ≤ b → G.fr b = 0
 prot : ∀ b, G.prot b → b < w.heap.size
 ok : ∀ o x, σ.get o = some x → Ok G w o x
 sep : ∀ o o' x x' b, σ.get o = some x → σ.get o' = some x' → bl G o x = some b → bl G o' x' = some b → o = o'
theorem Free.of_block {w w' : World} {b n : Nat} (h : Free w b n) (e : w'.heap[b]? = w.heap[b]?) : Free w' b n := by
 obtain ⟨arr, t, fz, h1, h2, h3⟩ := h
 exact ⟨arr, t, fz, e.trans h1, h2, h3⟩
theorem Free0.of_block {w w' : World} {b n : Nat} (h : Free0 w b n) (e : w'.heap[b]? = w.heap[b]?) : Free0 w' b n := by
 obtain ⟨arr, t, h1, h2⟩ := h
 exact ⟨arr, t, e.trans h1, h2⟩
theorem At.of_block {w w' : World} {b s : Nat} {vals : List Value} (h : At w b s vals) (e : w'.heap[b]? = w.heap[b]?) : At w' b s vals :=
 fun j v hj => (World.cell?_of_block (a := ⟨b, s + j, none⟩) e).trans (h j v hj)
theorem Ok.lt {G : Gh} {w : World} {o : Nat} {x : Ob} (h : Ok G w o x) : ∃ b, bl G o x = some b ∧ b < w.heap.size ∧ ¬ G.prot b := by
 cases x with
 | cells cs =>
  obtain ⟨b, s, vals, h1, _, _, ⟨arr, t, h4, _⟩, _, hb⟩ := h
  exact ⟨b, by simp [bl, h1], (Array.getElem?_eq_some_iff.1 h4).1, hb⟩
 | map es c =>
  obtain ⟨b, s, ents, h1, h2, _, _, hb⟩ := h
  exact ⟨b, by simp [bl, h1], (Array.getElem?_eq_some_iff.1 h2).1, hb⟩
 | tok =>
  obtain ⟨b, e, h1, _, ⟨arr, t, fz, h4, _⟩, hb⟩ := h
  exact ⟨b, by simp [bl, h1], (Array.getElem?_eq_some_iff.1 h4).1, hb⟩
 | loop st pe =>
  obtain ⟨b, s, r, h1, _, h4, _, hb⟩ := h
  exact ⟨b, by simp [bl, h1], (Array.getElem?_eq_some_iff.1 h4).1, hb⟩
theorem Ok.ext {G G' : Gh} {w w' : World} (e : Ext G w G' w') {o : Nat} {x : Ob} (h : Ok G w o x)
  (hb : ∀ b, bl G o x = some b → w'.heap[b]? = w.heap[b]? ∧ G'.fr b = G.fr b) : Ok G' w' o x := by
 cases x with
 | cells cs =>
  obtain ⟨b, s, vals, h1, h2, h3, h4, h5, h6⟩ := h
  obtain ⟨k1, k2⟩ := hb b (by simp [bl, h1])
  exact ⟨b, s, vals, e.ob _ _ h1, RvL.ext e _ _ h2, h3.of_block k1, h4.of_block k1, k2.trans h5, by rw [e.prot]; exact h6⟩
 | map es c =>
  obtain ⟨b, s, ents, h1, h2, h3, h4, h5⟩ := h
  obtain ⟨k1, k2⟩ := hb b (by simp [bl, h1])
  exact ⟨b, s, ents, e.ob _ _ h1, k1.trans h2, h3.ext e, k2.trans h4, by rw [e.prot]; exact h5⟩
 | tok =>
  obtain ⟨b, n, h1, h2, h3, h4⟩ := h
  obtain ⟨k1, k2⟩ := hb b (by simp [bl, h1])
  exact ⟨b, n, e.tk _ _ h1, k2.trans h2, h3.of_block k1, by rw [e.prot]; exact h4⟩
 | loop st pe =>
  obtain ⟨b, s, r, h1, h2, h3, h4, h5⟩ := h
  obtain ⟨k1, k2⟩ := hb b (by simp [bl, h1])
  exact ⟨b, s, r, e.ob _ _ h1, e.lp _ _ h2, k1.trans h3, k2.trans h4, by rw [e.prot]; exact h5⟩
theorem bl_ext {G G' : Gh} {w w' : World} (e : Ext G w G' w') {o : Nat} {x : Ob} {b : Nat} (h : bl G o x = some b) : bl G' o x = some b := by
 cases x <;> simp only [bl, Option.map_eq_some_iff] at h ⊢
 all_goals obtain ⟨a, h1, h2⟩ := h
 · exact ⟨a, e.ob _ _ h1, h2⟩
 · exact ⟨a, e.ob _ _ h1, h2⟩
 · exact ⟨a, e.tk _ _ h1, h2⟩
 · exact ⟨a, e.ob _ _ h1, h2⟩
end Go.Ab
