/- Abstract values can be compared; operations, code, and how it runs. -/
import Derived.Test.YtehdjkikcfeiaaaGreatAbX
namespace Go.Ab
open Go.RowKit
inductive AO where
 | t (n : Nat)
 | c (v : V)
 deriving Inhabited
inductive AOp where
 | mv (x : AO)
 | pick (c a b : AO)
 | box (x : AO)
 | build (z : List V) (parts : List (Nat × Nat × AO))
 | bslice (sz len : Nat) (z : List V) (parts : List (Nat × Nat × AO))
 | load (n : Option Nat) (a : AO)
 | store (n : Nat) (a x : AO)
 | nilCheck (x : AO)
 | bin (op : BinOp) (x y : AO)
 | eq (neg : Bool) (q : EqT) (x y : AO)
 | un (op : UnOp) (x : AO)
 | conv (k : IntKind) (x : AO)
 | same (x : AO)
 | b2s (x : AO)
 | s2b (x : AO)
 | mkfn (f : FuncId) (captured : List AO)
 | place (off : Nat) (x : AO)
 | part (off : Nat) (n : Option Nat) (x : AO)
 | arrAddr (len sz : Nat) (x i : AO)
 | slAddr (sz : Nat) (x i : AO)
 | arrIdx (len sz : Nat) (n : Option Nat) (x i : AO)
 | strIdx (x i : AO)
 | slice (sz : Nat) (x : AO) (lo hi mx : Option AO)
 | sliceStr (x : AO) (lo hi : Option AO)
 | len (x : AO)
 | lenStr (x : AO)
 | minmax (mx : Bool) (x : AO) (xs : List AO)
 | append (mu : Bool) (sz bytes : Nat) (x y : AO)
 | extract (x : AO) (i : Nat)
 | call (f : FuncId) (args : List AO)
 | callv (f : AO) (args : List AO)
 | xop (e : XOp) (args : List AO)
 deriving Inhabited
def AO.eval (ρ : Nat → V) : AO → V
 | .t n => ρ n
 | .c v => v
def AO.tmps : AO → List Nat
 | .t n => [n]
 | .c _ => []
def AOp.kind : AOp → Kind
 | .xop e _ => e.kind
 | .box _ | .store .. | .append .. | .call .. | .callv .. | .s2b _ => .effect
 | .load .. | .b2s _ | .eq .. | .slice .. => .read
 | _ => .pure
def AOp.tmps : AOp → List Nat
 | .mv x | .box x | .load _ x | .nilCheck x | .un _ x | .conv _ x | .same x | .b2s x | .s2b x | .place _ x | .part _ _ x | .len x | .lenStr x | .extract x _ => x.tmps
 | .pick c a b => c.tmps ++ a.tmps ++ b.tmps
 | .build _ ps | .bslice _ _ _ ps => ps.flatMap fun p => p.2.2.tmps
 | .store _ a x | .bin _ a x | .eq _ _ a x | .arrAddr _ _ a x | .slAddr _ a x | .arrIdx _ _ _ a x | .strIdx a x | .append _ _ _ a x => a.tmps ++ x.tmps
 | .mkfn _ cs => cs.flatMap AO.tmps
 | .slice _ x l h m => x.tmps ++ (l.map AO.tmps).getD [] ++ (h.map AO.tmps).getD [] ++ (m.map AO.tmps).getD []
 | .sliceStr x l h => x.tmps ++ (l.map AO.tmps).getD [] ++ (h.map AO.tmps).getD []
 | .minmax _ x xs => x.tmps ++ xs.flatMap AO.tmps
 | .call _ xs => xs.flatMap AO.tmps
 | .callv f xs => f.tmps ++ xs.flatMap AO.tmps
 | .xop _ xs => xs.flatMap AO.tmps
def aNilCheck : V → Option V
 | .ptr o f => some (.ptr o f)
 | .elt c f => some (.elt c f)
 | .fn (.func f) a c => some (.fn (.func f) a c)
 | _ => none
def aConv (k : IntKind) : V → Option V
 | .sc (.int _ n) => some (.sc (.int k (k.wrap n)))
 | _ => none
def aLen : V → Option V
 | .sc .nilS => some (.i64 0)
 | .sc (.oddS _) => some (.i64 0)
 | .vs _ _ n _ => some (.i64 n)
 | .os _ _ _ n _ => some (.i64 n)
 | _ => none
def aLenStr : V → Option V
 | .str l => some (.i64 l.length)
 | _ => none
def aExtract (i : Nat) : V → Option V
 | .tup xs => xs[i]?
 | _ => none
def aPartOf (off : Nat) (n : Option Nat) : V → Option V
 | .agg cs => aPart cs off n
 | _ => none
def aSame' : V → Option V
 | .str l => some (.str l)
 | _ => none
abbrev FnF := FuncId → List V → St → Option (V × St)
abbrev YlF := Nat → List V → St → Option (V × St)
structure CallF where
 fn : FnF
 yl : YlF
def aCallv (call : CallF) (f : V) (args : List V) (σ : St) : Option (V × St) :=
 match f with
 | .fn (.func g) first captured => call.fn g (first ++ args ++ captured) σ
 | .yl k => call.yl k args σ
 | _ => none
def slSize (sz : Nat) (x : V) : Bool :=
 match x with
 | .sc .nilS => true
 | .sc (.oddS _) => true
 | .vs _ s _ _ => s == sz
 | .os _ _ s _ _ => s == sz
 | _ => false
def AOp.run (call : CallF) (ρ : Nat → V) (σ : St) : AOp → Option (V × St)
 | .mv x => some (x.eval ρ, σ)
 | .pick c a b => match c.eval ρ with
  | .sc (.bool t) => some (if t then a.eval ρ else b.eval ρ, σ)
  | _ => none
 | .box x => aBox σ (x.eval ρ)
 | .build z ps => (fillV z (ps.map fun p => (p.1, p.2.1, p.2.2.eval ρ))).map fun cs => (.agg cs, σ)
 | .bslice sz ln z ps => (aBslice sz ln z (ps.map fun p => (p.1, p.2.1, p.2.2.eval ρ))).map fun v => (v, σ)
 | .load n a => (aLoad σ (a.eval ρ) n).map fun v => (v, σ)
 | .store n a x => (aStore σ n (a.eval ρ) (x.eval ρ)).map fun σ' => (.undef, σ')
 | .nilCheck x => (aNilCheck (x.eval ρ)).map fun v => (v, σ)
 | .bin op x y => (aBin op (x.eval ρ) (y.eval ρ)).map fun v => (v, σ)
 | .eq neg q x y => (aEqV σ q (x.eval ρ) (y.eval ρ)).map fun r => (.bool (if neg then !r else r), σ)
 | .un op x => (aUn op (x.eval ρ)).map fun v => (v, σ)
 | .conv k x => (aConv k (x.eval ρ)).map fun v => (v, σ)
 | .same x => (aSame' (x.eval ρ)).map fun v => (v, σ)
 | .b2s x => (aB2s σ (x.eval ρ)).map fun v => (v, σ)
 | .s2b x => aS2b σ (x.eval ρ)
 | .mkfn f cs => some (.fn (.func f) [] (cs.map (AO.eval ρ)), σ)
 | .place off x => (aPlace off (x.eval ρ)).map fun v => (v, σ)
 | .part off n x => (aPartOf off n (x.eval ρ)).map fun v => (v, σ)
 | .arrAddr ln sz x i => (aArrAddr ln sz (x.eval ρ) (i.eval ρ)).map fun v => (v, σ)
 | .slAddr sz x i => if slSize sz (x.eval ρ) then (aSlAddr (x.eval ρ) (i.eval ρ)).map fun v => (v, σ) else none
 | .arrIdx ln sz n x i => (aArrIdx ln sz n (x.eval ρ) (i.eval ρ)).map fun v => (v, σ)
 | .strIdx x i => (aStrIdx (x.eval ρ) (i.eval ρ)).map fun v => (v, σ)
 | .slice sz x l h m => if slSize sz (x.eval ρ) then (aSliceR σ (x.eval ρ) (l.map (AO.eval ρ)) (h.map (AO.eval ρ)) (m.map (AO.eval ρ))).map fun v => (v, σ) else none
 | .sliceStr x l h => match x.eval ρ with
  | .str s => (aSlice (.str s) (l.map (AO.eval ρ)) (h.map (AO.eval ρ)) none).map fun v => (v, σ)
  | _ => none
 | .len x => (aLen (x.eval ρ)).map fun v => (v, σ)
 | .lenStr x => (aLenStr (x.eval ρ)).map fun v => (v, σ)
 | .minmax mx x xs => (aFold mx (x.eval ρ) (xs.map (AO.eval ρ))).map fun v => (v, σ)
 | .append mu sz bytes x y => aAppend mu sz bytes σ (x.eval ρ) (y.eval ρ)
 | .extract x i => (aExtract i (x.eval ρ)).map fun v => (v, σ)
 | .call f args => call.fn f (args.map (AO.eval ρ)) σ
 | .callv f args => aCallv call (f.eval ρ) (args.map (AO.eval ρ)) σ
 | .xop e args => e.run σ (args.map (AO.eval ρ))
structure AOper where
 dst : Option Nat
 op : AOp
 guard : Option (Nat × Bool)
 see : List Nat := []
 deriving Inhabited
inductive AC where
 | skip
 | region (draw : Bool) (ops : List AOper)
 | seq (a b : AC)
 | cond (c : AO) (a b : AC)
 | block (id : Nat) (b : AC)
 | loop (b : AC)
 | rangeFn (f : AO) (ps : List Nat) (assign body : AC)
 | exit (id : Nat)
 | ret
 deriving Inhabited
abbrev Env := Nat → V
def upd (ρ : Env) (d : Nat) (v : V) : Env := fun t => cond (Nat.beq t d) v (ρ t)
def put (ρ : Env) (d : Option Nat) (v : V) : Env := match d with | some d => upd ρ d v | none => ρ
def wanted (ρ : Env) : Option (Nat × Bool) → Bool
 | none => true
 | some (t, b) => match ρ t with
  | .sc (.bool c) => c == b
  | _ => false
def runOps (call : CallF) : List AOper → Env → St → Option (Env × St)
 | [], ρ, σ => some (ρ, σ)
 | o :: os, ρ, σ => cond (wanted ρ o.guard) ((o.op.run call ρ σ).bind fun (v, σ') => runOps call os (put ρ o.dst v) σ') (runOps call os (put ρ o.dst .undef) σ)
structure Step where
 o : AOper
 ρ : Env
 v : V
 ran : Bool
def traceOps (call : CallF) : List AOper → Env → St → Option (List Step × List St × Env × St)
 | [], ρ, σ => some ([], [σ], ρ, σ)
 | o :: os, ρ, σ =>
  cond (wanted ρ o.guard)
   ((o.op.run call ρ σ).bind fun (v, σ') => (traceOps call os (put ρ o.dst v) σ').map fun (l, ss, r) => (⟨o, ρ, v, true⟩ :: l, (if o.op.kind = .effect then σ :: ss else ss), r))
   ((traceOps call os (put ρ o.dst .undef) σ).map fun (l, ss, r) => (⟨o, ρ, .undef, false⟩ :: l, (if o.op.kind = .effect then σ :: ss else ss), r))
def Step.alike (call : CallF) (ss : List St) (s : Step) : Bool :=
 !s.ran || s.o.see.all fun c => match ss[c]? with
  | some σ => decide ((s.o.op.run call s.ρ σ).map (·.1) = some s.v)
  | none => false
def runDraw (call : CallF) (ops : List AOper) (ρ : Env) (σ : St) : Option (Env × St) :=
 (traceOps call ops ρ σ).bind fun (l, ss, r) => if l.all (Step.alike call ss) then some r else none
def iter (body : Env → St → Option (Ex × Env × St)) : Nat → Env → St → Option (Ex × Env × St)
 | 0, _, _ => none
 | n + 1, ρ, σ => (body ρ σ).bind fun (e, ρ', σ') => match e with
  | .normal => iter body n ρ' σ'
  | e => some (e, ρ', σ')
def bindPs (ρ : Env) (ps : List Nat) (args : List V) : Env := (ps.zip args).foldl (fun ρ p => upd ρ p.1 p.2) ρ
def aRound (assign body : Env → St → Option (Ex × Env × St)) (ρ : Env) (ps : List Nat) (k : Nat) (args : List V) (σ : St) : Option (V × St) :=
 match σ.get k with
 | some (.loop .ready _) => cond (Nat.beq args.length ps.length) ((assign (bindPs ρ ps args) σ).bind fun (e1, ρ1, σ1) => match e1, σ1.get k with
  | .normal, some (.loop .ready pe) => (body ρ1 (σ1.put k (some (.loop .busy pe)))).bind fun (e2, _, σ2) => match σ2.get k with
   | some (.loop _ _) => match e2 with
    | .normal => some (.bool true, σ2.put k (some (.loop .ready none)))
    | e => some (.bool false, σ2.put k (some (.loop .done (some e))))
   | _ => none
  | _, _ => none) none
 | _ => none
def aAfter (k : Nat) (ρ : Env) (σ : St) : Option (Ex × Env × St) :=
 match σ.get k with
 | some (.loop .busy _) => none
 | some (.loop _ none) => some (.normal, ρ, σ.put k none)
 | some (.loop _ (some .normal)) => none
 | some (.loop _ (some e)) => some (e, ρ, σ.put k none)
 | _ => none
def exec (cy : YlF → FnF) (ys : YlF) (fuel : Nat) : AC → Env → St → Option (Ex × Env × St)
 | .skip, ρ, σ => some (.normal, ρ, σ)
 | .region false ops, ρ, σ => (runOps ⟨cy ys, ys⟩ ops ρ σ).map fun (ρ', σ') => (.normal, ρ', σ')
 | .region true ops, ρ, σ => (runDraw ⟨cy ys, ys⟩ ops ρ σ).map fun (ρ', σ') => (.normal, ρ', σ')
 | .seq a b, ρ, σ => (exec cy ys fuel a ρ σ).bind fun (e, ρ', σ') => match e with
  | .normal => exec cy ys fuel b ρ' σ'
  | e => some (e, ρ', σ')
 | .cond c a b, ρ, σ => match c.eval ρ with
  | .sc (.bool t) => cond t (exec cy ys fuel a ρ σ) (exec cy ys fuel b ρ σ)
  | _ => none
 | .block id b, ρ, σ => (exec cy ys fuel b ρ σ).map fun (e, ρ', σ') => match e with
  | .exit i => (if i = id then .normal else .exit i, ρ', σ')
  | e => (e, ρ', σ')
 | .loop b, ρ, σ => iter (exec cy ys fuel b) fuel ρ σ
 | .exit i, ρ, σ => some (.exit i, ρ, σ)
 | .ret, ρ, σ => some (.ret, ρ, σ)
 | .rangeFn f ps a b, ρ, σ => match f.eval ρ with
  | .fn (.func g) [] captured => (cy (fun j => cond (Nat.beq j σ.n) (aRound (exec cy ys fuel a) (exec cy ys fuel b) ρ ps σ.n) (ys j)) g (.yl σ.n :: captured) (σ.push (.loop .ready none))).bind fun (_, σ1) => aAfter σ.n ρ σ1
  | _ => none
inductive AR where
 | tmp (t : Nat)
 | cell (t : Nat) (n : Option Nat)
 | part (t : Nat) (n : Option Nat)
structure AF where
 ntmps : Nat
 code : AC
 results : List AR
def AR.get (ρ : Env) (σ : St) : AR → Option V
 | .tmp t => some (ρ t)
 | .cell t n => aLoad σ (ρ t) n
 | .part t n => aPartOf 0 n (ρ t)
def initEnv (args : List V) : Env := fun t => (args[t]?).getD .undef
def resultsOf (ρ : Env) (σ : St) (rs : List AR) : Option V :=
 (rs.mapM (AR.get ρ σ)).map fun
   | [x] => x
   | xs => .tup xs
def callY (tbl : FuncId → Option AF) : Nat → YlF → FnF
 | 0, _, _, _, _ => none
 | n + 1, ys, f, args, σ => (tbl f).bind fun af => if args.length ≤ af.ntmps then
     (exec (callY tbl n) ys n af.code (initEnv args) σ).bind fun (e, ρ, σ') => match e with
       | .exit _ => none
       | _ => (resultsOf ρ σ' af.results).map fun v => (v, σ')
  else none
def noYl : YlF := fun _ _ _ => none
def callN (tbl : FuncId → Option AF) (n : Nat) : FnF := callY tbl n noYl
end Go.Ab
