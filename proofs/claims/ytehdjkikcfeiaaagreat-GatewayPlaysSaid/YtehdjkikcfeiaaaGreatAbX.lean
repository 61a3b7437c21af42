/- Maps, made slices, 'clear', 'copy': abstract operations, and that the model's do as they do. -/
import Derived.Test.YtehdjkikcfeiaaaGreatAb10
import Derived.Laws.MakeOwn
namespace Go.Ab
open Go.RowKit
set_option linter.unusedVariables false
set_option linter.unusedSimpArgs false
section
mutual
def V.beq : V → V → Bool
 | .sc a, .sc b => decide (a = b)
 | .str a, .str b => decide (a = b)
 | .ptr o f, .ptr o' f' => o == o' && f == f'
 | .elt c f, .elt c' f' => V.beqL c c' && f == f'
 | .vs a s n c, .vs a' s' n' c' => decide (a = a') && s == s' && n == n' && V.beqL c c'
 | .os o f s n l, .os o' f' s' n' l' => o == o' && f == f' && s == s' && n == n' && l == l'
 | .mp o, .mp o' => o == o'
 | .yl o, .yl o' => o == o'
 | .fn f a c, .fn f' a' c' => decide (f = f') && V.beqL a a' && V.beqL c c'
 | .ifc t x, .ifc t' x' => t == t' && V.beq x x'
 | .agg c, .agg c' => V.beqL c c'
 | .tup c, .tup c' => V.beqL c c'
 | _, _ => false
def V.beqL : List V → List V → Bool
 | [], [] => true
 | x :: xs, y :: ys => V.beq x y && V.beqL xs ys
 | _, _ => false
end
mutual
theorem V.beq_eq : ∀ (x y : V), V.beq x y = true → x = y
 | .sc a, y, h => by cases y <;> simp [V.beq] at h ⊢ <;> exact h
 | .str a, y, h => by cases y <;> simp [V.beq] at h ⊢ <;> exact h
 | .ptr o f, y, h => by cases y <;> simp [V.beq] at h ⊢ <;> exact h
 | .elt c f, y, h => by
  cases y <;> simp [V.beq] at h ⊢
  exact ⟨V.beqL_eq _ _ h.1, h.2⟩
 | .vs a s n c, y, h => by
  cases y <;> simp [V.beq] at h ⊢
  exact ⟨h.1.1.1, h.1.1.2, h.1.2, V.beqL_eq _ _ h.2⟩
 | .os o f s n l, y, h => by
  cases y <;> simp [V.beq] at h ⊢
  exact ⟨h.1.1.1.1, h.1.1.1.2, h.1.1.2, h.1.2, h.2⟩
 | .mp o, y, h => by cases y <;> simp [V.beq] at h ⊢ <;> exact h
 | .yl o, y, h => by cases y <;> simp [V.beq] at h ⊢ <;> exact h
 | .fn f a c, y, h => by
  cases y <;> simp [V.beq] at h ⊢
  exact ⟨h.1.1, V.beqL_eq _ _ h.1.2, V.beqL_eq _ _ h.2⟩
 | .ifc t x, y, h => by
  cases y <;> simp [V.beq] at h ⊢
  exact ⟨h.1, V.beq_eq _ _ h.2⟩
 | .agg c, y, h => by
  cases y <;> simp [V.beq] at h ⊢
  exact V.beqL_eq _ _ h
 | .tup c, y, h => by
  cases y <;> simp [V.beq] at h ⊢
  exact V.beqL_eq _ _ h
theorem V.beqL_eq : ∀ (xs ys : List V), V.beqL xs ys = true → xs = ys
 | [], ys, h => by cases ys <;> simp [V.beqL] at h ⊢
 | x :: xs, ys, h => by
  cases ys <;> simp [V.beqL] at h ⊢
  exact ⟨V.beq_eq _ _ h.1, V.beqL_eq _ _ h.2⟩
end
mutual
theorem V.beq_refl : ∀ (x : V), V.beq x x = true
 | .sc _ | .str _ | .ptr _ _ | .mp _ | .yl _ | .os _ _ _ _ _ => by simp [V.beq]
 | .elt c _ | .vs _ _ _ c | .agg c | .tup c => by simp [V.beq, V.beqL_refl c]
 | .fn _ a c => by simp [V.beq, V.beqL_refl a, V.beqL_refl c]
 | .ifc _ x => by simp [V.beq, V.beq_refl x]
theorem V.beqL_refl : ∀ (xs : List V), V.beqL xs xs = true
 | [] => by simp [V.beqL]
 | x :: xs => by simp [V.beqL, V.beq_refl x, V.beqL_refl xs]
end
instance : DecidableEq V := fun x y => decidable_of_iff (V.beq x y = true) ⟨V.beq_eq x y, fun h => h ▸ V.beq_refl x⟩
inductive XOp where
 | mkmap
 | lookup (q : EqT) (z : V) (ok : Bool)
 | mapUpd (q : EqT)
 | mapDel (q : EqT)
 | mapLen
 | clear (n : Nat) (z : List V)
 | mkslice (mu : Bool) (n bytes : Nat) (z : List V)
 | copy (n : Nat)
 | mkifc (t : TypeId)
 | assert (t : TypeId) (ok : Bool)
 | cloneMap
 | mkbound (f : FuncId) (n : Nat)
 | sliceArr (n sz : Nat) (lo hi : Bool)
 | reg
 | rput (off n : Nat)
 deriving Inhabited
inductive Kind where
 | pure | read | effect
 deriving DecidableEq
def XOp.kind : XOp → Kind
 | .lookup .. | .mapLen | .mkifc _ | .assert .. | .mkbound .. | .sliceArr .. => .read
 | _ => .effect
def EqT.flat : EqT → Bool
 | .int _ | .bool | .str => true
 | _ => false
def EqT.key : EqT → Bool
 | .struct fs => fs.all fun f => f.2.2.flat
 | q => q.flat
def V.flat : V → Bool
 | .sc (.bool _) | .sc (.int ..) | .str _ => true
 | _ => false
def V.plain : V → Bool
 | .agg cs => cs.all V.flat
 | x => x.flat
def aFind (σ : St) (q : EqT) (k : V) : List (V × V × Nat) → Nat → Option (Option (Nat × V × V))
 | [], _ => some none
 | e :: es, i => (aEqV σ q k e.1).bind fun b => if b then some (some (i, e.1, e.2.1)) else aFind σ q k es (i + 1)
def aEnts (σ : St) : V → Option (List (V × V × Nat))
 | .sc .nilM => some []
 | .mp o => match σ.get o with
  | some (.map es _) => some es
  | _ => none
 | _ => none
def aKey (σ : St) (q : EqT) (k : V) : Bool := (aEqV σ q k k).isSome
def aSliceArr (n sz : Nat) (x : V) (lo hi : Option V) : Option V :=
 match x with
 | .ptr o off => (aBounds n lo hi none).map fun (l, h, _) => if n = l then .os o off sz 0 (some 0) else .os o (off + l * sz) sz (h - l) (some (n - l))
 | _ => none
def XOp.run (σ : St) : XOp → List V → Option (V × St)
 | .mkmap, [] => some (.mp σ.n, σ.push (.map [] 0))
 | .lookup q z ok, [m, k] => (aEnts σ m).bind fun es => if aKey σ q k then (aFind σ q k es 0).map fun r => (match r with
   | some (_, _, v) => if ok then .tup [v, .bool true] else v
   | none => if ok then .tup [z, .bool false] else z, σ) else none
 | .mapUpd q, [m, k, v] => match m with
  | .mp o => match σ.get o with
   | some (.map es c) => if aKey σ q k then (aFind σ q k es 0).bind fun r => match r with
    | some (i, k', _) => if decide (k' = k) && k.plain then some (.undef, σ.put o (some (.map (es.modify i fun e => (k, v, e.2.2)) c))) else none
    | none => some (.undef, σ.put o (some (.map (es ++ [(k, v, c)]) (c + 1)))) else none
   | _ => none
  | _ => none
 | .mapDel q, [m, k] => match m with
  | .sc .nilM => if aKey σ q k then some (.tup [], σ) else none
  | .mp o => match σ.get o with
   | some (.map es c) => if aKey σ q k then (aFind σ q k es 0).map fun r => match r with
    | some (i, _) => (.tup [], σ.put o (some (.map (es.eraseIdx i) c)))
    | none => (.tup [], σ.put o (some (.map es c))) else none
   | _ => none
  | _ => none
 | .mapLen, [m] => (aEnts σ m).map fun es => (.i64 es.length, σ)
 | .clear n z, [x] => match x with
  | .sc .nilS => some (.tup [], σ)
  | .sc (.oddS _) => some (.tup [], σ)
  | .vs _ _ 0 _ => some (.tup [], σ)
  | .os _ _ _ 0 _ => some (.tup [], σ)
  | .os o off sz (len + 1) _ => match σ.get o with
   | some (.cells cs) => if sz = n ∧ z.length = n ∧ off + (len + 1) * n ≤ cs.length ∧ z.all V.oneCell = true then some (.tup [], σ.put o (some (.cells (splice cs off (zeros z (len + 1)))))) else none
   | _ => none
  | _ => none
 | .mkslice mu n bytes z, [l, c] => match l, c with
  | .sc (.int _ l), .sc (.int _ c) => if 0 ≤ l ∧ l ≤ c ∧ c.toNat * n ≤ 16777216 ∧ (bytes : Int) * c ≤ 281474976710656 ∧ c ≤ 16777216 ∧ z.length = n then
    if mu then some (.os σ.n 0 n l.toNat (some c.toNat), σ.push (.cells (zeros z c.toNat)))
    else if l = c then some (.vs .exact n l.toNat (zeros z l.toNat), σ) else none
   else none
  | _, _ => none
 | .mkifc t, [x] => some (.ifc t x, σ)
 | .mkbound f n, xs => some (.fn (.func f) (xs.take n) (xs.drop n), σ)
 | .sliceArr n sz false false, [x] => (aSliceArr n sz x none none).map fun v => (v, σ)
 | .sliceArr n sz true false, [x, l] => (aSliceArr n sz x (some l) none).map fun v => (v, σ)
 | .sliceArr n sz false true, [x, h] => (aSliceArr n sz x none (some h)).map fun v => (v, σ)
 | .sliceArr n sz true true, [x, l, h] => (aSliceArr n sz x (some l) (some h)).map fun v => (v, σ)
 | .assert t ok, [x] => match x with
  | .ifc t' y => if t' = t then some (if ok then .tup [y, .bool true] else y, σ) else none
  | _ => none
 | .cloneMap, [x] => match x with
  | .ifc t (.mp o) => match σ.get o with
   | some (.map es c) => some (.ifc t (.mp σ.n), σ.push (.map es c))
   | _ => none
  | _ => none
 | .reg, [x] => if x.cellsOf.all V.oneCell = true then some (.agg x.cellsOf, σ.bump) else none
 | .rput off n, [r, x] => match r with
  | .agg cs => if x.cellsOf.length = n ∧ off + n ≤ cs.length ∧ x.cellsOf.all V.oneCell = true then some (.agg (splice cs off x.cellsOf), σ) else none
  | _ => none
 | .copy n, [x, y] => (aSrc σ n y).bind fun (m, news) => match x with
  | .sc .nilS => some (.i64 0, σ)
  | .sc (.oddS _) => some (.i64 0, σ)
  | .vs _ _ 0 _ => some (.i64 0, σ)
  | .os o off sz len _ => match σ.get o with
   | some (.cells cs) => if sz = n ∧ off + Nat.min m len * n ≤ cs.length ∧ (news.take (Nat.min m len * n)).length = Nat.min m len * n ∧ (news.take (Nat.min m len * n)).all V.oneCell = true then some (.i64 (Nat.min m len), σ.put o (some (.cells (splice cs off (news.take (Nat.min m len * n)))))) else none
   | _ => none
  | _ => none
 | _, _ => none
variable {P : Program} {G : Gh} {σ σ' : St} {w : World} {v : V}
theorem XOp.still {o : XOp} {xs : List V} (hk : o.kind ≠ .effect) (h : o.run σ xs = some (v, σ')) : σ' = σ := by
 cases o <;> simp only [XOp.kind] at hk <;> first | exact absurd rfl hk | skip
 · unfold XOp.run at h
   split at h <;> simp only [reduceCtorEq, XOp.lookup.injEq] at *
   rename_i q z ok m k heq
   rw [Option.bind_eq_some_iff] at h
   obtain ⟨es, _, h⟩ := h
   split at h
   · rw [Option.map_eq_some_iff] at h
     obtain ⟨_, _, h⟩ := h
     cases h; rfl
   · cases h
 · unfold XOp.run at h
   split at h <;> simp only [reduceCtorEq] at *
   rw [Option.map_eq_some_iff] at h
   obtain ⟨_, _, h⟩ := h
   cases h; rfl
 · unfold XOp.run at h
   split at h <;> simp only [reduceCtorEq, XOp.mkifc.injEq] at *
   cases h; rfl
 · unfold XOp.run at h
   split at h <;> simp only [reduceCtorEq, XOp.assert.injEq] at *
   split at h
   · split at h
     · cases h; rfl
     · cases h
   · cases h
 · simp only [XOp.run, Option.some.injEq, Prod.mk.injEq] at h
   exact h.2.symm
 · unfold XOp.run at h
   split at h
   all_goals first
    | (rw [Option.map_eq_some_iff] at h; obtain ⟨_, _, h⟩ := h; cases h; rfl)
    | (cases h; done)
    | (simp only [reduceCtorEq] at *; done)
theorem XOp.kind_ne (e : XOp) : e.kind ≠ .pure := by cases e <;> simp [XOp.kind]
theorem rv_flat {x : V} {v v' : Value} (hx : x.flat = true) (h : Rv G w x v) (h' : Rv G w x v') : v = v' := by
 unfold V.flat at hx
 split at hx
 · rw [scv h, scv h']
 · rw [scv h, scv h']
 · obtain ⟨s, rfl, hs⟩ := str_of h
   obtain ⟨s', rfl, hs'⟩ := str_of h'
   have : s = s' := by
    cases s; cases s'
    congr 1
    apply Array.ext'
    exact hs.trans hs'.symm
   rw [this]
 · cases hx
theorem rvL_flat : ∀ {xs : List V} {l l' : List Value}, xs.all V.flat = true → RvL G w xs l → RvL G w xs l' → l = l'
 | [], l, l', _, h, h' => by simp only [RvL] at h h'; rw [h, h']
 | x :: xs, l, l', hx, h, h' => by
  simp only [List.all_cons, Bool.and_eq_true] at hx
  simp only [RvL] at h h'
  obtain ⟨v, vs, rfl, h1, h2⟩ := h
  obtain ⟨v', vs', rfl, h1', h2'⟩ := h'
  rw [rv_flat hx.1 h1 h1', rvL_flat hx.2 h2 h2']
theorem rv_plain {x : V} {v v' : Value} (hx : x.plain = true) (h : Rv G w x v) (h' : Rv G w x v') : v = v' := by
 unfold V.plain at hx
 split at hx
 · simp only [Rv] at h h'
   obtain ⟨vs, rfl, h2⟩ := h
   obtain ⟨vs', rfl, h2'⟩ := h'
   rw [rvL_flat hx h2 h2']
 · exact rv_flat hx h h'
theorem same_flat {x : V} {v : Value} (n : Nat) (hx : x.flat = true) (h : Rv G w x v) : Instr.sameBits n v v = true := by
 unfold V.flat at hx
 split at hx
 · rw [scv h]; cases n <;> simp [Instr.sameBits, Sc.val]
 · rw [scv h]; cases n <;> simp [Instr.sameBits, Sc.val]
 · obtain ⟨s, rfl, hs⟩ := str_of h
   cases n <;> (simp only [Instr.sameBits]; rw [beq_toListBytes]; simp)
 · cases hx
theorem same_flats (n : Nat) : ∀ {xs : List V} {l : List Value}, xs.all V.flat = true → RvL G w xs l → ((l.zip l).all fun (x, y) => Instr.sameBits n x y) = true
 | [], l, _, h => by simp only [RvL] at h; subst h; rfl
 | x :: xs, l, hx, h => by
  simp only [List.all_cons, Bool.and_eq_true] at hx
  simp only [RvL] at h
  obtain ⟨v, vs, rfl, h1, h2⟩ := h
  simp only [List.zip_cons_cons, List.all_cons, Bool.and_eq_true]
  exact ⟨same_flat n hx.1 h1, same_flats n hx.2 h2⟩
theorem same_plain {x : V} {v : Value} (n : Nat) (hx : x.plain = true) (h : Rv G w x v) : Instr.sameBits (n + 1) v v = true := by
 unfold V.plain at hx
 split at hx
 · simp only [Rv] at h
   obtain ⟨vs, rfl, h2⟩ := h
   simp only [Instr.sameBits]
   simpa using same_flats n hx h2
 · exact same_flat _ hx h
theorem stays_ok {x : V} {v : Value} (hx : x.plain = true) (h : Rv G w x v) : (Instr.keyThatStays v v).run P w = .ok v w := by
 unfold Instr.keyThatStays
 rw [if_pos (same_plain 9999 hx h)]
 simp
end
end Go.Ab
