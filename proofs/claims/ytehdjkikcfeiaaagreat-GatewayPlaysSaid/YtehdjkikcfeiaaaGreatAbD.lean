/- A region that draws its order: whatever the order, it comes to what the order of the text comes to. -/
import Derived.Test.YtehdjkikcfeiaaaGreatAb16
namespace Go.Ab
open Go.RowKit
section
def preOf (ops : Array Oper) : List Nat := (Region.before ops).toList
def bitOf (pre : List Nat) (i j : Nat) : Bool := ((pre[i]?).getD 0).testBit j
def AOp.isAlloc : AOp → Bool
 | .box (.c _) => true
 | _ => false
def effs (aos : List AOper) : List Nat := (aos.zipIdx.filter fun x => decide (x.1.op.kind = .effect)).map (·.2)
def seesOf (pre : List Nat) (es : List Nat) (c i : Nat) : List Nat :=
 let lo := (es.takeWhile fun e => bitOf pre i e).length
 let hi := (es.takeWhile fun e => !bitOf pre e i).length
 (List.range (hi + 1)).filter fun k => decide (lo ≤ k ∧ k ≠ c)
def allIdx {α : Type} (l : List α) (f : α → Nat → Bool) : Bool := l.zipIdx.all fun x => f x.1 x.2
def drawOk (ops : Array Oper) (aos : List AOper) : Bool :=
 let pre := preOf ops
 let es := effs aos
 (allIdx ops.toList fun o i => o.after.toList.all fun e => !Region.binds .any e || (decide (e.on < i) && bitOf pre i e.on)) &&
 ((List.range aos.length).all fun i => (List.range aos.length).all fun j => !bitOf pre i j || (decide (j < i) && ((ops[i]?).map fun o => o.after.toList.any fun e => Region.binds .any e && (e.on == j || bitOf pre e.on j)).getD false)) &&
 (es.all fun e => es.all fun f => !decide (e < f) || bitOf pre f e || ((aos[f]?).map fun o => o.op.isAlloc).getD false) &&
 (allIdx aos fun o i => allIdx aos fun q j => decide (i = j) || q.dst.isNone || decide (q.dst ≠ o.dst)) &&
 (allIdx aos fun o i => ((ops[i]?).map fun p => o.op.tmps.all (p.looksAt ops).contains && (match o.guard with | some (t, _) => (p.looksAt ops).contains t | none => true)).getD false) &&
 (allIdx ops.toList fun p i => allIdx aos fun q j => decide (i = j) || ((p.looksAt ops).all fun t => !decide (q.dst = some t) || bitOf pre i j || bitOf pre j i)) &&
 (allIdx aos fun q f => !q.op.isAlloc || (q.dst.isSome && allIdx ops.toList fun p j => decide (j = f) || ((p.looksAt ops).all fun t => !decide (q.dst = some t) || es.all fun e => decide (f < e) || bitOf pre j e))) &&
 (allIdx aos fun o i => decide (o.op.kind ≠ .read) || (seesOf pre es (effB aos i) i).all o.see.contains) &&
 (ops.toList.all fun o => match o.op with | .select .. => false | _ => true)
def cDraw (P : Program) (mu : TypeId → Bool) (n : Nat) (ops : Array Oper) : Option (List AOper) :=
 (ops.toList.mapM (cOper P mu n ops)).bind fun aos =>
   let pre := preOf ops
   let es := effs aos
   let out := aos.zipIdx.map fun x => if x.1.op.kind = .read then { x.1 with see := seesOf pre es (effB aos x.2) x.2 } else x.1
   if drawOk ops out then some out else none
end
end Go.Ab
