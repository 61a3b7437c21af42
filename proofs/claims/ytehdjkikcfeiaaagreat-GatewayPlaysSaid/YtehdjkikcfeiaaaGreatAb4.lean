/- Operations on abstract values, each held against the model's: scalars, structs, loads and stores. -/
import Derived.Test.YtehdjkikcfeiaaaGreatAb3
namespace Go.Ab
open Go.RowKit
def Does (P : Program) (s : Sem Value) (G : Gh) (w : World) (σ' : St) (x' : V) : Prop :=
 ∃ v w' G', s.run P w = .ok v w' ∧ Rs G' σ' w' ∧ Ext G w G' w' ∧ Rv G' w' x' v
theorem Does.pure {P : Program} {s : Sem Value} {G : Gh} {w : World} {σ : St} {x : V} {v : Value} (h : Rs G σ w) (hr : s.run P w = .ok v w) (hv : Rv G w x v) : Does P s G w σ x :=
 ⟨v, w, G, hr, h, Ext.refl _ _, hv⟩
def constCell : Value → Option V
 | .string s => some (.str s.data.toList)
 | .bool b => some (.sc (.bool b))
 | .int k n => some (.sc (.int k n))
 | .pointer none => some (.sc .nilP)
 | .slice none 0 0 => some (.sc .nilS)
 | .map none => some (.sc .nilM)
 | .nilFunc => some (.sc .nilF)
 | .nilIface => some (.sc .nilI)
 | _ => none
def constV : Value → Option V
 | .agg cs => (cs.toList.mapM constCell).map .agg
 | .tuple vs => if vs.isEmpty then some .undef else none
 | v => constCell v
theorem constCell_ok {G : Gh} {w : World} {v : Value} {x : V} (h : constCell v = some x) : Rv G w x v ∧ x.oneCell = true := by
 unfold constCell at h
 split at h
 · cases h; simp only [Rv]; exact ⟨⟨_, rfl, rfl⟩, rfl⟩
 all_goals first | (cases h; exact ⟨Rv.sc, rfl⟩) | cases h
theorem mapM_constCell {G : Gh} {w : World} : ∀ {l : List Value} {xs : List V}, l.mapM constCell = some xs → RvL G w xs l ∧ xs.all V.oneCell = true
 | [], xs, h => by simp at h; subst h; exact ⟨RvL.nil, rfl⟩
 | v :: l, xs, h => by
  simp only [List.mapM_cons, Option.bind_eq_bind, Option.bind_eq_some_iff, Option.pure_def, Option.some.injEq] at h
  obtain ⟨x, h1, ys, h2, rfl⟩ := h
  obtain ⟨k1, k2⟩ := constCell_ok (G := G) (w := w) h1
  obtain ⟨l1, l2⟩ := mapM_constCell h2
  exact ⟨RvL.cons k1 l1, by simp [k2]; simpa using l2⟩
theorem constV_ok {G : Gh} {w : World} {v : Value} {x : V} (h : constV v = some x) : Rv G w x v := by
 unfold constV at h
 split at h
 · rename_i cs
   rw [Option.map_eq_some_iff] at h
   obtain ⟨xs, h1, rfl⟩ := h
   obtain ⟨k1, _⟩ := mapM_constCell (G := G) (w := w) h1
   simp only [Rv]
   exact ⟨cs.toList, by simp, k1⟩
 · split at h
   · rename_i vs hv
     cases h
     have : vs = #[] := by simpa using hv
     subst this; exact Rv.undef
   · cases h
 · exact (constCell_ok h).1
theorem Rv.oneCell {G : Gh} {w : World} {x : V} {v : Value} (h : Rv G w x v) (h1 : x.oneCell = true) : v.oneCell' = true := by
 cases x with
 | agg cs => simp [V.oneCell] at h1
 | tup cs => simp [V.oneCell] at h1
 | sc a => simp only [Rv] at h; subst h; cases a <;> rfl
 | str l => simp only [Rv] at h; obtain ⟨s, rfl, _⟩ := h; rfl
 | ptr o off => simp only [Rv] at h; obtain ⟨b, s, _, rfl⟩ := h; rfl
 | elt cs off => simp only [Rv] at h; obtain ⟨b, s, _, rfl, _⟩ := h; rfl
 | vs own sz len cs => simp only [Rv] at h; obtain ⟨b, s, _, _, rfl, _⟩ := h; rfl
 | os o off sz len lim => simp only [Rv] at h; obtain ⟨b, s, _, _, rfl, _⟩ := h; rfl
 | mp o => simp only [Rv] at h; obtain ⟨b, s, _, rfl⟩ := h; rfl
 | yl o => simp only [Rv] at h; obtain ⟨b, s, _, rfl⟩ := h; rfl
 | fn f a c => simp only [Rv] at h; obtain ⟨b, s, rfl, _⟩ := h; rfl
 | ifc t y => simp only [Rv] at h; obtain ⟨y, rfl, _⟩ := h; rfl
theorem RvL.oneCell {G : Gh} {w : World} : ∀ {xs : List V} {l : List Value}, RvL G w xs l → xs.all V.oneCell = true → ∀ v ∈ l, v.oneCell' = true
 | [], l, h, _ => by simp only [RvL] at h; subst h; simp
 | x :: xs, l, h, ha => by
  simp only [RvL] at h
  obtain ⟨v, vs, rfl, h2, h3⟩ := h
  simp only [List.all_cons, Bool.and_eq_true] at ha
  intro u hu
  rcases List.mem_cons.1 hu with rfl | hu
  · exact h2.oneCell ha.1
  · exact RvL.oneCell h3 ha.2 u hu
def aInt (op : BinOp) (k : IntKind) (a b : Int) : Option V :=
 match op with
 | .add => some (.sc (.int k (k.wrap (a + b))))
 | .sub => some (.sc (.int k (k.wrap (a - b))))
 | .mul => some (.sc (.int k (k.wrap (a * b))))
 | .quo => if b = 0 then none else some (.sc (.int k (k.wrap (a.tdiv b))))
 | .rem => if b = 0 then none else some (.sc (.int k (a.tmod b)))
 | .and => some (.sc (.int k (k.wrap (BitVec.ofInt k.bits a &&& BitVec.ofInt k.bits b).toNat)))
 | .or => some (.sc (.int k (k.wrap (BitVec.ofInt k.bits a ||| BitVec.ofInt k.bits b).toNat)))
 | .xor => some (.sc (.int k (k.wrap (BitVec.ofInt k.bits a ^^^ BitVec.ofInt k.bits b).toNat)))
 | .andNot => some (.sc (.int k (k.wrap (BitVec.ofInt k.bits a &&& ~~~(BitVec.ofInt k.bits b)).toNat)))
 | .eql => some (.bool (a == b))
 | .neq => some (.bool (a != b))
 | .lss => some (.bool (decide (a < b)))
 | .leq => some (.bool (decide (a ≤ b)))
 | .gtr => some (.bool (decide (a > b)))
 | .geq => some (.bool (decide (a ≥ b)))
 | _ => none
def aShift (op : BinOp) (k : IntKind) (a b : Int) : Option V :=
 if b < 0 then none else
 match op with
 | .shl => some (.sc (.int k (k.wrap (a * 2 ^ (min b.toNat k.bits)))))
 | .shr => some (.sc (.int k (a.fdiv (2 ^ (min b.toNat k.bits)))))
 | _ => none
def aStr (op : BinOp) (a b : List UInt8) : Option V :=
 match op with
 | .add => if a.length + b.length > 9223372036854775807 then none else some (.str (a ++ b))
 | .eql => some (.bool (decide (a = b)))
 | .neq => some (.bool (!decide (a = b)))
 | .lss => some (.bool (Op.bytesLess a b))
 | .leq => some (.bool (Op.bytesLess a b || decide (a = b)))
 | .gtr => some (.bool (!(Op.bytesLess a b || decide (a = b))))
 | .geq => some (.bool (!Op.bytesLess a b))
 | _ => none
def aBin (op : BinOp) (x y : V) : Option V :=
 match x, y with
 | .sc (.int k a), .sc (.int k' b) =>
  match op with
  | .shl | .shr => aShift op k a b
  | _ => if k = k' then aInt op k a b else none
 | .str a, .str b => aStr op a b
 | _, _ => none
theorem str_of {G : Gh} {w : World} {l : List UInt8} {v : Value} (h : Rv G w (.str l) v) : ∃ s : ByteArray, v = .string s ∧ s.data.toList = l := by
 simpa only [Rv] using h
theorem Rv.str {G : Gh} {w : World} {l : List UInt8} {s : ByteArray} (h : s.data.toList = l) : Rv G w (.str l) (.string s) := by
 simp only [Rv]; exact ⟨s, rfl, h⟩
theorem size_eq (s : ByteArray) : s.size = s.data.toList.length := Array.length_toList.symm
theorem beq_dec (a b : List UInt8) : (a == b) = decide (a = b) := by
 rw [Bool.eq_iff_iff]; simp
theorem max64 : IntKind.i64.max = 9223372036854775807 := by decide
theorem aInt_ok {P : Program} {op : BinOp} {k : IntKind} {a b : Int} {x : V} (t : TypeId) (hs : op ≠ .shl) (hr : op ≠ .shr) (h : aInt op k a b = some x) :
  ∃ v : Sc, x = .sc v ∧ ∀ w, (binOp op t (.int k a) (.int k b)).run P w = .ok v.val w := by
 unfold aInt at h
 cases op <;> simp only [reduceCtorEq, Option.some.injEq] at h <;>
  first
  | exact absurd rfl hs
  | exact absurd rfl hr
  | (subst h; exact ⟨_, rfl, fun w => by simp [binOp, Op.intArith, Op.intBits, Op.intCmp, Sc.val]⟩)
  | (split at h
     · cases h
     · rename_i hb
       simp only [Option.some.injEq] at h; subst h
       exact ⟨_, rfl, fun w => by simp [binOp, Op.intDiv, hb, Sc.val]⟩)
theorem aShift_ok {P : Program} {op : BinOp} {k k' : IntKind} {a b : Int} {x : V} (t : TypeId) (h : aShift op k a b = some x) :
  ∃ v : Sc, x = .sc v ∧ ∀ w, (binOp op t (.int k a) (.int k' b)).run P w = .ok v.val w := by
 unfold aShift at h
 split at h
 · cases h
 · rename_i hb
   cases op <;> simp only [reduceCtorEq, Option.some.injEq] at h <;>
    (subst h; exact ⟨_, rfl, fun w => by simp [binOp, Op.shift, hb, Sc.val]⟩)
theorem aStr_ok {P : Program} {G : Gh} {op : BinOp} {s u : ByteArray} {x : V} (t : TypeId) (h : aStr op s.data.toList u.data.toList = some x) :
  ∃ v, (∀ w, Rv G w x v) ∧ ∀ w, (binOp op t (.string s) (.string u)).run P w = .ok v w := by
 have e1 := ByteArray.toList_eq s
 have e2 := ByteArray.toList_eq u
 have e3 := beq_dec s.data.toList u.data.toList
 have eq : ∀ w, (binOp op t (.string s) (.string u)).run P w = (Op.stringOp op s u).run P w := by intro w; cases op <;> rfl
 simp only [eq]
 unfold aStr at h
 unfold Op.stringOp
 rw [e1, e2, e3]
 cases op <;> simp only [reduceCtorEq, Option.some.injEq] at h
 case add =>
  split at h
  · cases h
  · rename_i hb
    simp only [Option.some.injEq] at h; subst h
    refine ⟨.string (s ++ u), fun w => Rv.str (by simp), fun w => ?_⟩
    have hb' : ¬ (((s.size + u.size : Nat) : Int) > IntKind.i64.max) := by rw [max64, size_eq, size_eq]; omega
    simp only
    rw [if_neg hb']; rfl
 all_goals (subst h; exact ⟨_, fun w => Rv.sc, fun w => rfl⟩)
theorem aBin_ok {P : Program} {G : Gh} {w : World} {op : BinOp} {x y r : V} {a b : Value} (t : TypeId) (hx : Rv G w x a) (hy : Rv G w y b) (h : aBin op x y = some r) :
  ∃ v, Rv G w r v ∧ (binOp op t a b).run P w = .ok v w := by
 unfold aBin at h
 split at h
 · rename_i k m k' n
   have := scv hx; have := scv hy; subst_vars
   by_cases hs : op = .shl ∨ op = .shr
   · have h' : aShift op k m n = some r := by rcases hs with rfl | rfl <;> exact h
     obtain ⟨v, rfl, hr⟩ := aShift_ok (P := P) (k' := k') t h'
     exact ⟨_, Rv.sc, hr w⟩
   · have hs1 : op ≠ .shl := fun e => hs (.inl e)
     have hs2 : op ≠ .shr := fun e => hs (.inr e)
     have h' : (if k = k' then aInt op k m n else none) = some r := by
      cases op <;> first | exact absurd rfl hs1 | exact absurd rfl hs2 | exact h
     split at h'
     · rename_i hk
       subst hk
       obtain ⟨v, rfl, hr⟩ := aInt_ok (P := P) t hs1 hs2 h'
       exact ⟨_, Rv.sc, hr w⟩
     · cases h'
 · obtain ⟨s, rfl, rfl⟩ := str_of hx
   obtain ⟨u, rfl, rfl⟩ := str_of hy
   obtain ⟨v, h1, h2⟩ := aStr_ok (P := P) (G := G) t h
   exact ⟨v, h1 w, h2 w⟩
 · cases h
def aUn (op : UnOp) (x : V) : Option V :=
 match op, x with
 | .neg, .sc (.int k n) => some (.sc (.int k (k.wrap (0 - n))))
 | .xor, .sc (.int k n) => some (.sc (.int k (k.wrap (BitVec.ofInt k.bits (if k.signed then -1 else k.max) ^^^ BitVec.ofInt k.bits n).toNat)))
 | .not, .sc (.bool b) => some (.bool (!b))
 | _, _ => none
theorem aUn_ok {P : Program} {G : Gh} {w : World} {op : UnOp} {x r : V} {a : Value} (hx : Rv G w x a) (h : aUn op x = some r) :
  ∃ v, Rv G w r v ∧ (Op.unary op a).run P w = .ok v w := by
 unfold aUn at h
 split at h <;> first | (have := scv hx; subst this; cases h; exact ⟨_, Rv.sc, by simp [Op.unary, Op.intArith, Op.intBits, Sc.val]⟩) | cases h
def aMinMax (mx : Bool) (x y : V) : Option V :=
 match x, y with
 | .sc (.int k a), .sc (.int _ b) => some (.sc (.int k (if mx then (if b > a then b else a) else (if b < a then b else a))))
 | _, _ => none
def aFold (mx : Bool) : V → List V → Option V
 | x, [] => some x
 | x, y :: ys => (aMinMax mx x y).bind fun z => aFold mx z ys
theorem aMax_ok {P : Program} {G : Gh} {w : World} {x y r : V} {a b : Value} (hx : Rv G w x a) (hy : Rv G w y b) (h : aMinMax true x y = some r) :
  ∃ v, Rv G w r v ∧ (Builtin.max2 a b).run P w = .ok v w := by
 unfold aMinMax at h
 split at h
 · have := scv hx; have := scv hy; subst_vars
   cases h
   exact ⟨_, Rv.sc, by simp [Builtin.max2, Sc.val]⟩
 · cases h
theorem aMin_ok {P : Program} {G : Gh} {w : World} {x y r : V} {a b : Value} (hx : Rv G w x a) (hy : Rv G w y b) (h : aMinMax false x y = some r) :
  ∃ v, Rv G w r v ∧ (Builtin.min2 a b).run P w = .ok v w := by
 unfold aMinMax at h
 split at h
 · have := scv hx; have := scv hy; subst_vars
   cases h
   exact ⟨_, Rv.sc, by simp [Builtin.min2, Sc.val]⟩
 · cases h
theorem aFoldMax_ok {P : Program} {G : Gh} {w : World} : ∀ {ys : List V} {bs : List Value} {x r : V} {a : Value}, Rv G w x a → RvL G w ys bs → aFold true x ys = some r →
  ∃ v, Rv G w r v ∧ (bs.foldlM Builtin.max2 a).run P w = .ok v w
 | [], bs, x, r, a, hx, hy, h => by simp only [RvL] at hy; subst hy; cases h; exact ⟨a, hx, by simp⟩
 | y :: ys, bs, x, r, a, hx, hy, h => by
  simp only [RvL] at hy
  obtain ⟨b, bs', rfl, hb, hy'⟩ := hy
  simp only [aFold, Option.bind_eq_some_iff] at h
  obtain ⟨z, h1, h2⟩ := h
  obtain ⟨v, k1, k2⟩ := aMax_ok (P := P) hx hb h1
  obtain ⟨u, l1, l2⟩ := aFoldMax_ok (P := P) k1 hy' h2
  exact ⟨u, l1, by simp [List.foldlM_cons, k2, l2]⟩
theorem aFoldMin_ok {P : Program} {G : Gh} {w : World} : ∀ {ys : List V} {bs : List Value} {x r : V} {a : Value}, Rv G w x a → RvL G w ys bs → aFold false x ys = some r →
  ∃ v, Rv G w r v ∧ (bs.foldlM Builtin.min2 a).run P w = .ok v w
 | [], bs, x, r, a, hx, hy, h => by simp only [RvL] at hy; subst hy; cases h; exact ⟨a, hx, by simp⟩
 | y :: ys, bs, x, r, a, hx, hy, h => by
  simp only [RvL] at hy
  obtain ⟨b, bs', rfl, hb, hy'⟩ := hy
  simp only [aFold, Option.bind_eq_some_iff] at h
  obtain ⟨z, h1, h2⟩ := h
  obtain ⟨v, k1, k2⟩ := aMin_ok (P := P) hx hb h1
  obtain ⟨u, l1, l2⟩ := aFoldMin_ok (P := P) k1 hy' h2
  exact ⟨u, l1, by simp [List.foldlM_cons, k2, l2]⟩
def splice (cs : List V) (off : Nat) (new : List V) : List V := cs.take off ++ new ++ cs.drop (off + new.length)
def fillV : List V → List (Nat × Nat × V) → Option (List V)
 | cs, [] => some cs
 | cs, (off, size, x) :: rest => if x.cellsOf.length = size ∧ off + size ≤ cs.length then fillV (splice cs off x.cellsOf) rest else none
theorem fold_splice : ∀ (new : List Value) (cs : Array Value) (off k : Nat), off + k + new.length ≤ cs.size →
  ((new.zipIdx k).foldl (fun cs (cj : Value × Nat) => cs.setIfInBounds (off + cj.2) cj.1) cs).toList = cs.toList.take (off + k) ++ new ++ cs.toList.drop (off + k + new.length)
 | [], cs, off, k, _ => by simp
 | v :: new, cs, off, k, h => by
  simp only [List.length_cons] at h
  simp only [List.zipIdx_cons, List.foldl_cons]
  rw [fold_splice new _ off (k + 1) (by simp; omega)]
  have hlt : off + k < cs.toList.length := by simp; omega
  have e1 : (cs.setIfInBounds (off + k) v).toList = cs.toList.take (off + k) ++ v :: cs.toList.drop (off + k + 1) := by
   rw [Array.toList_setIfInBounds, List.set_eq_take_append_cons_drop, if_pos hlt]
  have l1 : (cs.toList.take (off + k)).length = off + k := by rw [List.length_take]; omega
  rw [e1]
  have e2 : (cs.toList.take (off + k) ++ v :: cs.toList.drop (off + k + 1)).take (off + (k + 1)) = cs.toList.take (off + k) ++ [v] := by
   rw [List.take_append, l1, List.take_of_length_le (by omega), show off + (k + 1) - (off + k) = 1 by omega]; rfl
  have e3 : (cs.toList.take (off + k) ++ v :: cs.toList.drop (off + k + 1)).drop (off + (k + 1) + new.length) = cs.toList.drop (off + k + (new.length + 1)) := by
   rw [List.drop_append, l1, List.drop_of_length_le (by omega), show off + (k + 1) + new.length - (off + k) = new.length + 1 by omega, List.drop_succ_cons, List.drop_drop]
   simp only [List.nil_append]; congr 1; omega
  rw [e2, e3]
  simp
theorem splice_length {cs : List V} {off : Nat} {new : List V} (h : off + new.length ≤ cs.length) : (splice cs off new).length = cs.length := by
 unfold splice; simp; omega
theorem fillV_length : ∀ {parts : List (Nat × Nat × V)} {cs out : List V}, fillV cs parts = some out → out.length = cs.length
 | [], cs, out, h => by cases h; rfl
 | (off, size, x) :: rest, cs, out, h => by
  simp only [fillV] at h
  split at h
  · rename_i hc
    rw [fillV_length h, splice_length (by omega)]
  · cases h
def PartsR (G : Gh) (w : World) : List (Nat × Nat × V) → List (Nat × Value) → (Nat → Option (Nat × Nat)) → Prop
 | [], l, _ => l = []
 | (off, size, x) :: rest, l, place => ∃ i v l', l = (i, v) :: l' ∧ place i = some (off, size) ∧ Rv G w x v ∧ PartsR G w rest l' place
theorem fill_ok {G : Gh} {w : World} {place : Nat → Option (Nat × Nat)} : ∀ {parts : List (Nat × Nat × V)} {l : List (Nat × Value)} {cs out : List V} {zs : Array Value},
  PartsR G w parts l place → RvL G w cs zs.toList → fillV cs parts = some out → ∃ rs : Array Value, Instr.fill place zs l = some rs ∧ RvL G w out rs.toList
 | [], l, cs, out, zs, hp, hz, h => by
  simp only [PartsR] at hp; subst hp; cases h; exact ⟨zs, rfl, hz⟩
 | (off, size, x) :: rest, l, cs, out, zs, hp, hz, h => by
  simp only [PartsR] at hp
  obtain ⟨i, v, l', rfl, h1, h2, h3⟩ := hp
  simp only [fillV] at h
  split at h
  · rename_i hc
    have hcl := h2.cells
    have hl := hcl.length
    have hzl := hz.length
    simp only [Array.length_toList] at hl hzl
    have hcond : (v.cells.size ≠ size || off + v.cells.size > zs.size) = false := by
     simp [hl, hc.1, hzl]; omega
    have hf := fold_splice v.cells.toList zs off 0 (by simp [hl, hzl]; omega)
    simp only [Nat.add_zero, Array.length_toList] at hf
    have hf2 : v.cells.zipIdx.foldl (fun cs (c, j) => cs.setIfInBounds (off + j) c) zs = (zs.toList.take off ++ v.cells.toList ++ zs.toList.drop (off + v.cells.size)).toArray := by
     apply Array.ext'
     rw [← Array.foldl_toList, Array.toList_zipIdx]
     exact hf
    have hsp : RvL G w (splice cs off x.cellsOf) (zs.toList.take off ++ v.cells.toList ++ zs.toList.drop (off + v.cells.size)) := by
     unfold splice
     rw [hl]
     exact ((hz.take off).append hcl).append (hz.drop _)
    obtain ⟨rs, k1, k2⟩ := fill_ok (zs := (zs.toList.take off ++ v.cells.toList ++ zs.toList.drop (off + v.cells.size)).toArray) h3 (by simpa using hsp) h
    refine ⟨rs, ?_, k2⟩
    simp only [Instr.fill, h1, hcond, hf2]
    exact k1
  · cases h
def aPart (cs : List V) (off : Nat) (n : Option Nat) : Option V :=
 match n with
 | none => cs[off]?
 | some n => if off + n ≤ cs.length then some (.agg ((cs.drop off).take n)) else none
theorem part_ok {P : Program} {G : Gh} {w : World} {cs : List V} {vs : List Value} {off : Nat} {n : Option Nat} {x : V} (t : TypeId) (i : TypeInfo) (hi : P.info? t = some i) (d : TypeDesc) (hd : P.underlying t = some d)
  (hn : n = match d with | .struct _ | .array _ _ => some i.size | _ => none) (hr : RvL G w cs vs) (h : aPart cs off n = some x) :
  ∃ v, (part t vs.toArray off).run P w = .ok v w ∧ Rv G w x v := by
 have hagg : (isAgg t).run P w = .ok (n.isSome) w := by
  simp only [isAgg, Sem.run_bind, run_underlying hd, Result.andThen_ok]
  subst hn
  cases d <;> rfl
 have hsize : (sizeOf t).run P w = .ok i.size w := by simp [sizeOf, typeInfo, hi]
 unfold aPart at h
 cases n with
 | none =>
  simp only at h
  obtain ⟨v, h1, h2⟩ := hr.getElem? off x h
  refine ⟨v, ?_, h2⟩
  simp only [part, Sem.run_bind, hagg, Result.andThen_ok]
  simp [h1]
 | some n =>
  simp only at h
  split at h
  · rename_i hb
    cases h
    have hni : n = i.size := by cases d <;> simp_all
    refine ⟨.agg ((vs.drop off).take n).toArray, ?_, ?_⟩
    · simp only [part, Sem.run_bind, hagg, Result.andThen_ok]
      simp [hsize, hni, List.extract_eq_take_drop]
    · simp only [Rv]; exact ⟨_, rfl, (hr.drop off).take n⟩
  · cases h
end Go.Ab
