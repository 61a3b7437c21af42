/- The abstract machine: values, store, operations (definitions and their plain laws; no program in sight). -/
import Derived.Calls
import Derived.Laws.OwnMore
import Derived.Below
import Derived.Laws.Strings
import Derived.Laws.StructEq
import Derived.Laws.IdiomCopy
import Derived.Laws.Concat
namespace Go.Ab
inductive Tr (α : Type) where
 | nil
 | node (l : Tr α) (v : Option α) (r : Tr α)
namespace Tr
variable {α : Type}
def get : Tr α → Nat → Option α
 | .nil, _ => none
 | .node l v r, k =>
  match k with
  | 0 => v
  | k + 1 => if k % 2 = 0 then get l (k / 2) else get r (k / 2)
def left : Tr α → Tr α
 | .nil => .nil
 | .node l _ _ => l
def right : Tr α → Tr α
 | .nil => .nil
 | .node _ _ r => r
def here : Tr α → Option α
 | .nil => none
 | .node _ v _ => v
def setF : Nat → Tr α → Nat → Option α → Tr α
 | 0, t, _, _ => t
 | f + 1, t, k, x =>
  match k with
  | 0 => .node t.left x t.right
  | k + 1 => if k % 2 = 0 then .node (setF f t.left (k / 2) x) t.here t.right else .node t.left t.here (setF f t.right (k / 2) x)
def set (t : Tr α) (k : Nat) (x : Option α) : Tr α := setF (k.log2 + 2) t k x
theorem get_nil (k : Nat) : (Tr.nil : Tr α).get k = none := by unfold get; rfl
theorem get_zero (t : Tr α) : t.get 0 = t.here := by cases t <;> rfl
theorem get_succ (t : Tr α) (k : Nat) : t.get (k + 1) = if k % 2 = 0 then t.left.get (k / 2) else t.right.get (k / 2) := by
 cases t with
 | nil => simp [get_nil, left, right]
 | node l v r => rfl
theorem get_setF (f : Nat) : ∀ (t : Tr α) (k k' : Nat) (x : Option α), k + 1 < 2 ^ f →
  (setF f t k x).get k' = if k' = k then x else t.get k' := by
 induction f with
 | zero => intro t k k' x h; simp at h
 | succ f ih =>
  intro t k k' x h
  cases k with
  | zero =>
   simp only [setF]
   cases k' with
   | zero => simp [get]
   | succ k' =>
    rw [get_succ t]
    simp [get]
  | succ k =>
   have hk : k / 2 + 1 < 2 ^ f := by rw [Nat.pow_succ] at h; omega
   simp only [setF]
   by_cases hp : k % 2 = 0
   · rw [if_pos hp]
     cases k' with
     | zero => simp [get, get_zero]
     | succ k' =>
      rw [get_succ t]
      simp only [get]
      by_cases hp' : k' % 2 = 0
      · rw [if_pos hp', if_pos hp', ih _ _ _ _ hk]
        by_cases he : k' = k
        · subst he; simp
        · rw [if_neg (by omega), if_neg (by omega)]
      · rw [if_neg hp', if_neg hp', if_neg (by omega)]
   · rw [if_neg hp]
     cases k' with
     | zero => simp [get, get_zero]
     | succ k' =>
      rw [get_succ t]
      simp only [get]
      by_cases hp' : k' % 2 = 0
      · rw [if_pos hp', if_pos hp', if_neg (by omega)]
      · rw [if_neg hp', if_neg hp', ih _ _ _ _ hk]
        by_cases he : k' = k
        · subst he; simp
        · rw [if_neg (by omega), if_neg (by omega)]
theorem get_set (t : Tr α) (k k' : Nat) (x : Option α) : (t.set k x).get k' = if k' = k then x else t.get k' := by
 unfold set
 refine get_setF _ _ _ _ _ ?_
 have h1 : k < 2 ^ (k.log2 + 1) := Nat.lt_log2_self
 have h2 : 1 ≤ 2 ^ (k.log2 + 1) := Nat.one_le_two_pow
 rw [show k.log2 + 2 = (k.log2 + 1) + 1 from rfl, Nat.pow_succ]
 omega
end Tr
inductive Own where
 | exact
 | tok (t : Nat)
 | ro
 deriving DecidableEq, Inhabited
inductive Sc where
 | bool (b : Bool) | int (k : IntKind) (n : Int) | nilP | nilS | nilM | nilF | nilI
 | oddS (a : Addr)
 deriving DecidableEq, Inhabited
def Sc.val : Sc → Value
 | .bool b => .bool b
 | .int k n => .int k n
 | .nilP => .pointer none
 | .nilS => .slice none 0 0
 | .oddS a => .slice (some a) 0 0
 | .nilM => .map none
 | .nilF => .nilFunc
 | .nilI => .nilIface
inductive V where
 | sc (v : Sc)
 | str (s : List UInt8)
 | ptr (o off : Nat)
 | elt (cells : List V) (off : Nat)
 | vs (own : Own) (sz len : Nat) (cells : List V)
 | os (o off sz len : Nat) (lim : Option Nat)
 | mp (o : Nat)
 | yl (o : Nat)
 | fn (f : Fn) (first captured : List V)
 | ifc (t : TypeId) (v : V)
 | agg (cells : List V)
 | tup (vs : List V)
instance : Inhabited V := ⟨.tup []⟩
namespace V
def undef : V := .tup []
def cellsOf : V → List V
 | .agg cs => cs
 | v => [v]
@[reducible] def i64 (n : Int) : V := .sc (.int .i64 n)
@[reducible] def bool (b : Bool) : V := .sc (.bool b)
@[reducible] def nilP : V := .sc .nilP
@[reducible] def nilS : V := .sc .nilS
@[reducible] def nilM : V := .sc .nilM
end V
inductive Ex where
 | normal | exit (id : Nat) | ret
 deriving DecidableEq
inductive Ob where
 | cells (cs : List V)
 | map (es : List (V × V × Nat)) (clock : Nat)
 | tok
 | loop (st : LoopState) (pend : Option Ex)
structure St where
 n : Nat
 t : Tr Ob
namespace St
def empty : St := ⟨0, .nil⟩
def get (σ : St) (o : Nat) : Option Ob := if o < σ.n then σ.t.get o else none
def put (σ : St) (o : Nat) (x : Option Ob) : St := ⟨σ.n, σ.t.set o x⟩
def push (σ : St) (x : Ob) : St := ⟨σ.n + 1, σ.t.set σ.n (some x)⟩
def bump (σ : St) : St := ⟨σ.n + 1, σ.t.set σ.n none⟩
theorem get_put (σ : St) (o o' : Nat) (x : Option Ob) (h : o < σ.n) : (σ.put o x).get o' = if o' = o then x else σ.get o' := by
 unfold put get
 simp only [Tr.get_set]
 by_cases he : o' = o
 · subst he; simp [h]
 · simp [he]
theorem get_push (σ : St) (o' : Nat) (x : Ob) : (σ.push x).get o' = if o' = σ.n then some x else σ.get o' := by
 unfold push get
 simp only [Tr.get_set]
 by_cases he : o' = σ.n
 · subst he; simp
 · simp only [he, if_false]
   by_cases hl : o' < σ.n
   · rw [if_pos (by omega), if_pos hl]
   · rw [if_neg (by omega), if_neg hl]
theorem get_bump (σ : St) (o' : Nat) : σ.bump.get o' = σ.get o' := by
 unfold bump get
 simp only [Tr.get_set]
 by_cases he : o' = σ.n
 · subst he; simp
 · simp only [he, if_false]
   by_cases hl : o' < σ.n
   · rw [if_pos (by omega), if_pos hl]
   · rw [if_neg (by omega), if_neg hl]
theorem get_lt {σ : St} {o : Nat} {x : Ob} (h : σ.get o = some x) : o < σ.n := by
 unfold get at h
 by_cases hl : o < σ.n
 · exact hl
 · rw [if_neg hl] at h; cases h
theorem get_n (σ : St) {o : Nat} (h : σ.n ≤ o) : σ.get o = none := by
 unfold get; rw [if_neg (by omega)]
@[simp] theorem n_put (σ : St) (o : Nat) (x : Option Ob) : (σ.put o x).n = σ.n := rfl
@[simp] theorem n_bump (σ : St) : σ.bump.n = σ.n + 1 := rfl
@[simp] theorem n_push (σ : St) (x : Ob) : (σ.push x).n = σ.n + 1 := rfl
end St
end Go.Ab
