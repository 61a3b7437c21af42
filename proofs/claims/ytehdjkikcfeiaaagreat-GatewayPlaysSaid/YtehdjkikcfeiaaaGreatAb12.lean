/- The model's operations, made abstract; each does what its abstract one does. -/
import Derived.Test.YtehdjkikcfeiaaaGreatAb11
namespace Go.Ab
open Go.RowKit
section
variable {P : Program} {G : Gh} {σ : St} {w : World}
def cOpd : Operand → Option AO
 | .tmp t => some (.t t)
 | .const v => (constV v).map .c
 | .func f => some (.c (.fn (.func f) [] []))
 | .global _ => none
def cOpt : Option Operand → Option (Option AO)
 | none => some none
 | some x => (cOpd x).map some
def zeroOf (P : Program) (t : TypeId) : Option V := (P.info? t).bind fun i => i.zero.bind constV
def sizeOf' (P : Program) (t : TypeId) : Option Nat := (P.info? t).map (·.size)
def cParts (place : Nat → Option (Nat × Nat)) (ps : List (Nat × Operand)) : Option (List (Nat × Nat × AO)) :=
 ps.mapM fun p => (place p.1).bind fun q => (cOpd p.2).map fun x => (q.1, q.2, x)
def fieldPlaces (P : Program) (fs : List Field) : Option (List (Nat × Nat)) := fs.mapM fun f => (sizeOf' P f.type).map fun n => (f.offset, n)
def isIntStr (P : Program) (t : TypeId) : Bool :=
 match P.underlying t with
 | some (.int _) => true
 | some .string => true
 | _ => false
def mapT (P : Program) (t : TypeId) : Option (TypeId × TypeId) :=
 match P.underlying t with
 | some (.map k e) => some (k, e)
 | _ => none
def slT (P : Program) (t : TypeId) : Option TypeId :=
 match P.underlying t with
 | some (.slice e) => some e
 | _ => none
def arrT (P : Program) (t : TypeId) : Option (Nat × TypeId) :=
 match P.underlying t with
 | some (.array n e) => some (n, e)
 | _ => none
theorem arrT_ok {t : TypeId} {ne : Nat × TypeId} (h : arrT P t = some ne) : P.underlying t = some (.array ne.1 ne.2) := by
 unfold arrT at h
 cases hd : P.underlying t with
 | none => rw [hd] at h; cases h
 | some d => rw [hd] at h; cases d <;> first | (cases h; rfl) | cases h
theorem mapT_ok {t : TypeId} {ke : TypeId × TypeId} (h : mapT P t = some ke) : P.underlying t = some (.map ke.1 ke.2) := by
 unfold mapT at h
 cases hd : P.underlying t with
 | none => rw [hd] at h; cases h
 | some d => rw [hd] at h; cases d <;> first | (cases h; rfl) | cases h
theorem slT_ok {t e : TypeId} (h : slT P t = some e) : P.underlying t = some (.slice e) := by
 unfold slT at h
 cases hd : P.underlying t with
 | none => rw [hd] at h; cases h
 | some d => rw [hd] at h; cases d <;> first | (cases h; rfl) | cases h
def notIfc (P : Program) (t : TypeId) : Bool :=
 match P.underlying t with
 | some (.interface _) => false
 | none => false
 | _ => true
def isClone (P : Program) (f : FuncId) : Bool :=
 match P.funcs[f]? with
 | some fn => fn.name == "maps.clone" && fn.body.isNone && fn.origin == ""
 | none => false
def cOp (P : Program) (mu : TypeId → Bool) (o : Oper) : Option AOp :=
 match o.op with
 | .move x => (cOpd x).map .mv
 | .assign x => (cOpd x).map .mv
 | .pick c a b => (cOpd c).bind fun c => (cOpd a).bind fun a => (cOpd b).map fun b => .pick c a b
 | .alloc e => (zeroOf P e).map fun v => .box (.c v)
 | .box _ x => (cOpd x).map .box
 | .build t ps => (zeroOf P t).bind fun z => match P.underlying t with
  | some (.struct fs) => (fieldPlaces P fs.toList).bind fun pl => (cParts (pl[·]?) ps.toList).map fun qs => .build z.cellsOf qs
  | some (.array _ e) => (sizeOf' P e).bind fun n => (cParts (fun i => some (i * n, n)) ps.toList).map fun qs => .build z.cellsOf qs
  | _ => none
 | .buildSlice t len ps => match P.underlying t with
  | some (.slice e) => (zeroOf P e).bind fun z => (sizeOf' P e).bind fun n => (cParts (fun i => some (i * n, n)) ps.toList).map fun qs => .bslice n len z.cellsOf qs
  | _ => none
 | .load t a => (tySize P t).bind fun n => (cOpd a).map fun a => .load n a
 | .store t a x => (sizeOf' P t).bind fun n => (cOpd a).bind fun a => (cOpd x).map fun x => .store n a x
 | .nilCheck x => (cOpd x).map .nilCheck
 | .binOp op t x y _ => (cOpd x).bind fun x => (cOpd y).bind fun y =>
  if isIntStr P t then some (.bin op x y) else
  match op with
  | .eql => if P.eqGuardType P.depth t then none else (eqT P 12 t).map fun q => .eq false q x y
  | .neq => if P.eqGuardType P.depth t then none else (eqT P 12 t).map fun q => .eq true q x y
  | _ => none
 | .unOp op _ x => (cOpd x).map (.un op)
 | .convert s d x => (cOpd x).bind fun x => match P.underlying s, P.underlying d with
  | some (.int _), some (.int k) => some (.conv k x)
  | some .string, some .string => some (.same x)
  | some .string, some (.slice e) => match P.underlying e with
   | some (.int .u8) => some (.s2b x)
   | _ => none
  | some (.slice e), some .string => match P.underlying e with
   | some (.int .u8) => some (.b2s x)
   | _ => none
  | _, _ => none
 | .makeFunc (.func f) first captured => if first.isEmpty then (captured.toList.mapM cOpd).map (.mkfn f) else (first.toList.mapM cOpd).bind fun fs => (captured.toList.mapM cOpd).map fun cs => .xop (.mkbound f fs.length) (fs ++ cs)
 | .fieldAddr t x k => match P.underlying t with
  | some (.struct fs) => (fs[k]?).bind fun f => (sizeOf' P f.type).bind fun n => if n = 0 then none else (cOpd x).map (.place f.offset)
  | _ => none
 | .field t x k => match P.underlying t with
  | some (.struct fs) => (fs[k]?).bind fun f => (tySize P f.type).bind fun n => (cOpd x).map (.part f.offset n)
  | _ => none
 | .indexAddr t x i => (cOpd x).bind fun x => (cOpd i).bind fun i => match P.underlying t with
  | some (.array len e) => (sizeOf' P e).map fun n => .arrAddr len n x i
  | some (.slice e) => (sizeOf' P e).map fun n => .slAddr n x i
  | _ => none
 | .index t x i => (cOpd x).bind fun x => (cOpd i).bind fun i => match P.underlying t with
  | some (.array len e) => (sizeOf' P e).bind fun n => (tySize P e).map fun m => .arrIdx len n m x i
  | some .string => some (.strIdx x i)
  | _ => none
 | .slice t x lo hi mx => (cOpd x).bind fun x => (cOpt lo).bind fun lo => (cOpt hi).bind fun hi => (cOpt mx).bind fun mx => match P.underlying t with
  | some .string => if mx.isSome then none else some (.sliceStr x lo hi)
  | some (.slice e) => (sizeOf' P e).map fun n => .slice n x lo hi mx
  | _ => (arrT P t).bind fun ne => if mx.isSome then none else (sizeOf' P ne.2).map fun n => .xop (.sliceArr ne.1 n lo.isSome hi.isSome) ([x] ++ lo.toList ++ hi.toList)
 | .extract x i => (cOpd x).map fun x => .extract x i
 | .makeInterface t x => if notIfc P t then (cOpd x).map fun x => .xop (.mkifc t) [x] else none
 | .typeAssert x _ t ok => if notIfc P t then (cOpd x).map fun x => .xop (.assert t ok) [x] else none
 | .makeMap _ none => some (.xop .mkmap [])
 | .lookup t m k ok => (mapT P t).bind fun ke => (eqT P 12 ke.1).bind fun q => if q.key then (zeroOf P ke.2).bind fun z => (cOpd m).bind fun m => (cOpd k).map fun k => .xop (.lookup q z ok) [m, k] else none
 | .mapUpdate t m k x => (mapT P t).bind fun ke => (eqT P 12 ke.1).bind fun q => if q.key then (cOpd m).bind fun m => (cOpd k).bind fun k => (cOpd x).map fun x => .xop (.mapUpd q) [m, k, x] else none
 | .makeSlice t l c => (slT P t).bind fun e => (P.info? e).bind fun i => (zeroOf P e).bind fun z => (cOpd l).bind fun l => (cOpd c).map fun c => .xop (.mkslice (mu e) i.size i.bytes z.cellsOf) [l, c]
 | .call c => match c.callee with
  | .builtin b => (c.args.toList.mapM cOpd).bind fun args => match b, args, c.argTypes.toList with
   | .len, [x], [t] => match P.underlying t with
    | some .string => some (.lenStr x)
    | some (.slice _) => some (.len x)
    | _ => (mapT P t).map fun _ => .xop .mapLen [x]
   | .max, x :: xs, _ => some (.minmax true x xs)
   | .min, x :: xs, _ => some (.minmax false x xs)
   | .delete, [m, k], t :: _ => (mapT P t).bind fun ke => (eqT P 12 ke.1).bind fun q => if q.key then some (.xop (.mapDel q) [m, k]) else none
   | .clear, [x], [t] => (slT P t).bind fun e => (P.info? e).bind fun i => (zeroOf P e).map fun z => .xop (.clear i.size z.cellsOf) [x]
   | .copy, [x, y], t :: _ => (slT P t).bind fun e => (P.info? e).map fun i => .xop (.copy i.size) [x, y]
   | .append, [x, y], [t, u] => match P.underlying t, P.underlying u with
    | some (.slice e), some (.slice _) => (P.info? e).bind fun i => i.zero.bind fun z => if z.cells.size = i.size then some (.append (mu e) i.size i.bytes x y) else none
    | some (.slice e), some .string => (P.info? e).bind fun i => i.zero.bind fun z => if z.cells.size = i.size then some (.append (mu e) i.size i.bytes x y) else none
    | _, _ => none
   | _, _, _ => none
  | .value (.func f) => (c.args.toList.mapM cOpd).map fun xs => if isClone P f then .xop .cloneMap xs else .call f xs
  | .value f => (cOpd f).bind fun f => (c.args.toList.mapM cOpd).map (.callv f)
  | _ => none
 | _ => none
def RE (G : Gh) (w : World) (ρ : Env) (tmps : Array Value) : Prop := ∀ t, Rv G w (ρ t) (tmps.getD t undef)
theorem opd_ok {ρ : Env} {a : Act} {x : Operand} {ao : AO} (hr : RE G w ρ a.tmps) (h : cOpd x = some ao) : Rv G w (ao.eval ρ) (a.eval x) := by
 unfold cOpd at h
 split at h
 · cases h; exact hr _
 · rw [Option.map_eq_some_iff] at h
   obtain ⟨v, h1, rfl⟩ := h
   exact constV_ok h1
 · cases h
   simp only [AO.eval, Act.eval, Rv]
   exact ⟨[], [], rfl, RvL.nil, RvL.nil⟩
 · cases h
theorem opt_ok {ρ : Env} {a : Act} {x : Option Operand} {ao : Option AO} (hr : RE G w ρ a.tmps) (h : cOpt x = some ao) : OptR G w (ao.map (AO.eval ρ)) (x.map a.eval) := by
 unfold cOpt at h
 split at h
 · cases h; rfl
 · rw [Option.map_eq_some_iff] at h
   obtain ⟨v, h1, rfl⟩ := h
   exact ⟨_, rfl, opd_ok hr h1⟩
theorem opds_ok {ρ : Env} {a : Act} (hr : RE G w ρ a.tmps) : ∀ {xs : List Operand} {aos : List AO}, xs.mapM cOpd = some aos → RvL G w (aos.map (AO.eval ρ)) (xs.map a.eval)
 | [], aos, h => by simp at h; subst h; exact RvL.nil
 | x :: xs, aos, h => by
  simp only [List.mapM_cons, Option.bind_eq_bind, Option.bind_eq_some_iff, Option.pure_def, Option.some.injEq] at h
  obtain ⟨ao, h1, aos', h2, rfl⟩ := h
  exact RvL.cons (opd_ok hr h1) (opds_ok hr h2)
theorem parts_ok {ρ : Env} {a : Act} (hr : RE G w ρ a.tmps) {place place' : Nat → Option (Nat × Nat)} (hp : ∀ i q, place i = some q → place' i = some q) : ∀ {ps : List (Nat × Operand)} {qs : List (Nat × Nat × AO)}, cParts place ps = some qs →
  PartsR G w (qs.map fun p => (p.1, p.2.1, p.2.2.eval ρ)) (ps.map fun p => (p.1, a.eval p.2)) place'
 | [], qs, h => by simp [cParts] at h; subst h; rfl
 | (i, x) :: ps, qs, h => by
  simp only [cParts, List.mapM_cons, Option.bind_eq_bind, Option.bind_eq_some_iff, Option.pure_def, Option.some.injEq, Option.map_eq_some_iff] at h
  obtain ⟨q, ⟨pl, h1, ao, h2, rfl⟩, qs', h3, rfl⟩ := h
  simp only [List.map_cons, PartsR]
  exact ⟨i, a.eval x, _, rfl, hp _ _ h1, opd_ok hr h2, parts_ok hr hp h3⟩
def OpDoes (P : Program) (o : Oper) (a : Act) (G : Gh) (w : World) (σ' : St) (v : V) : Prop :=
 ∃ v' w' G', ((execOp a.eval o).run P w = .ok (.value v') w' ∨ ((execOp a.eval o).run P w = .ok .skip w' ∧ v' = undef)) ∧ Rs G' σ' w' ∧ Ext G w G' w' ∧ Rv G' w' v v'
theorem OpDoes.of {o : Oper} {a : Act} {s : Sem Value} {σ' : St} {v : V} (h : Does P s G w σ' v) (he : execOp a.eval o = (do let v ← s; pure (.value v))) : OpDoes P o a G w σ' v := by
 obtain ⟨v', w', G', h1, h2, h3, h4⟩ := h
 exact ⟨v', w', G', Or.inl (by rw [he]; simp [h1]), h2, h3, h4⟩
end
end Go.Ab
