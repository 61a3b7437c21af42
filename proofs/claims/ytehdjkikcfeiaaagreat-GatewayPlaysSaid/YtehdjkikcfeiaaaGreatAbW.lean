/- Steps over an abstract run, with calls whose ends are only partly told. -/
import Derived.Test.YtehdjkikcfeiaaaGreatAb20
namespace Go.Ab
section
def W {α : Type} (x : Option α) (Q : α → Prop) : Prop := ∃ a, x = some a ∧ Q a
variable {α : Type}
theorem w_some {a : α} {Q : α → Prop} : W (some a) Q = Q a := by
 simp [W]
theorem W.mk {x : Option α} {a : α} {Q : α → Prop} (h : x = some a) (hq : Q a) : W x Q := ⟨a, h, hq⟩
theorem W.mono {x : Option α} {Q R : α → Prop} (h : W x Q) (k : ∀ a, Q a → R a) : W x R := by
 obtain ⟨a, h1, h2⟩ := h; exact ⟨a, h1, k a h2⟩
theorem w_strict {β : Type} {f : Option α → Option β} {x : Option α} {Q : β → Prop} (h : W x fun a => W (f (some a)) Q) : W (f x) Q := by
 obtain ⟨a, rfl, b, h1, h2⟩ := h
 exact ⟨b, h1, h2⟩
variable {call : CallF} {cy : YlF → FnF} {ys : YlF} {fuel : Nat} {ρ : Env} {σ : St}
theorem w_op {d : Option Nat} {os : List AOper} {x : Option (V × St)} {Q : Env × St → Prop} (h : W x fun a => W (stOp call d os ρ (some a)) Q) : W (stOp call d os ρ x) Q := w_strict h
theorem w_reg {x : Option (Env × St)} {Q : Ex × Env × St → Prop} (h : W x fun a => W (stReg (some a)) Q) : W (stReg x) Q := w_strict h
theorem w_seq {b : AC} {x : Option (Ex × Env × St)} {Q : Ex × Env × St → Prop} (h : W x fun a => W (stSeq cy ys fuel b (some a)) Q) : W (stSeq cy ys fuel b x) Q := w_strict h
theorem w_block {i : Nat} {x : Option (Ex × Env × St)} {Q : Ex × Env × St → Prop} (h : W x fun a => W (stBlock i (some a)) Q) : W (stBlock i x) Q := w_strict h
theorem w_fin {rs : List AR} {x : Option (Ex × Env × St)} {Q : V × St → Prop} (h : W x fun a => W (stFin rs (some a)) Q) : W (stFin rs x) Q := w_strict h
theorem w_iter {body : Env → St → Option (Ex × Env × St)} {Q : Ex × Env × St → Prop} (I : Nat → Env → St → Prop)
  (h : ∀ m ρ σ, I m ρ σ → W (body ρ σ) fun r => match r.1 with
    | .normal => ∃ m', m' < m ∧ I m' r.2.1 r.2.2
    | _ => Q r) : ∀ {n m : Nat} {ρ : Env} {σ : St}, m < n → I m ρ σ → W (iter body n ρ σ) Q
 | 0, m, ρ, σ, hl, _ => absurd hl (Nat.not_lt_zero _)
 | n + 1, m, ρ, σ, hl, hi => by
  obtain ⟨⟨e, ρ', σ'⟩, h1, h2⟩ := h m ρ σ hi
  simp only [iter, h1, Option.bind_some]
  cases e with
  | normal =>
   obtain ⟨m', h3, h4⟩ := h2
   exact w_iter I h (by omega) h4
  | exit i => exact ⟨_, rfl, h2⟩
  | ret => exact ⟨_, rfl, h2⟩
theorem w_loop {b : AC} {Q : Ex × Env × St → Prop} (I : Nat → Env → St → Prop) (m : Nat) (hl : m < fuel) (hi : I m ρ σ)
  (h : ∀ m ρ σ, I m ρ σ → W (exec cy ys fuel b ρ σ) fun r => match r.1 with
    | .normal => ∃ m', m' < m ∧ I m' r.2.1 r.2.2
    | _ => Q r) : W (exec cy ys fuel (.loop b) ρ σ) Q := by
 rw [s_loop]
 exact w_iter I h hl hi
structure Kept (X : Nat → Prop) (σ σ' : St) : Prop where
 n : σ.n ≤ σ'.n
 get : ∀ o x, ¬ X o → σ.get o = some x → σ'.get o = some x
def noX : Nat → Prop := fun _ => False
theorem Kept.refl (X : Nat → Prop) (σ : St) : Kept X σ σ := ⟨Nat.le_refl _, fun _ _ _ h => h⟩
theorem Kept.trans {X : Nat → Prop} {a b c : St} (h : Kept X a b) (k : Kept X b c) : Kept X a c := ⟨Nat.le_trans h.n k.n, fun o x hx ho => k.get o x hx (h.get o x hx ho)⟩
theorem Kept.push {X : Nat → Prop} {σ σ' : St} (h : Kept X σ σ') (x : Ob) : Kept X σ (σ'.push x) :=
 ⟨Nat.le_succ_of_le h.n, fun o y hx ho => by rw [St.get_push, if_neg (Nat.ne_of_lt (St.get_lt (h.get o y hx ho)))]; exact h.get o y hx ho⟩
theorem Kept.put {X : Nat → Prop} {σ σ' : St} (h : Kept X σ σ') {o : Nat} (ho : X o ∨ σ.n ≤ o) (hl : o < σ'.n) (x : Option Ob) : Kept X σ (σ'.put o x) :=
 ⟨h.n, fun p y hx hp => by
  rw [St.get_put _ _ _ _ hl, if_neg (by rintro rfl; rcases ho with ho | ho; exact hx ho; exact absurd (St.get_lt hp) (by omega))]
  exact h.get p y hx hp⟩
theorem Kept.sub {X Y : Nat → Prop} {a b : St} (h : Kept X a b) (hs : ∀ o, X o → Y o) : Kept Y a b := ⟨h.n, fun o x ho hx => h.get o x (fun hX => ho (hs o hX)) hx⟩
theorem boxed_ok {σ : St} {x : V} (h : x.cellsOf.all V.oneCell = true) : aBox σ x = some (.ptr σ.n 0, σ.push (.cells x.cellsOf)) := by
 unfold aBox; rw [if_pos h]
theorem load_ok {σ : St} {o f : Nat} {cs : List V} {n : Option Nat} (h : σ.get o = some (.cells cs)) : aLoad σ (.ptr o f) n = aPart cs f n := by
 simp only [aLoad, h]
theorem get_push_self {σ : St} {x : Ob} : (σ.push x).get σ.n = some x := by rw [St.get_push, if_pos rfl]
theorem get_push_lt {σ : St} {x y : Ob} {o : Nat} (h : σ.get o = some y) : (σ.push x).get o = some y := by
 rw [St.get_push, if_neg (Nat.ne_of_lt (St.get_lt h))]; exact h
theorem get_put_self {σ : St} {o : Nat} {x y : Ob} (h : σ.get o = some y) : (σ.put o (some x)).get o = some x := by
 rw [St.get_put _ _ _ _ (St.get_lt h), if_pos rfl]
theorem get_put_other {σ : St} {o p : Nat} {x : Option Ob} {y : Ob} (hp : p < σ.n) (hne : o ≠ p) (h : σ.get o = some y) : (σ.put p x).get o = some y := by
 rw [St.get_put _ _ _ _ hp, if_neg hne]; exact h
theorem get_push_eq {σ : St} {o : Nat} {x : Ob} (h : o = σ.n) : (σ.push x).get o = some x := by rw [St.get_push, if_pos h]
theorem get_push_ne {σ : St} {o : Nat} {x : Ob} (h : o ≠ σ.n) : (σ.push x).get o = σ.get o := by rw [St.get_push, if_neg h]
theorem get_put_eq {σ : St} {o p : Nat} {x : Option Ob} (h : o = p) (hp : p < σ.n) : (σ.put p x).get o = x := by rw [St.get_put _ _ _ _ hp, if_pos h]
theorem get_put_ne {σ : St} {o p : Nat} {x : Option Ob} (h : o ≠ p) (hp : p < σ.n) : (σ.put p x).get o = σ.get o := by rw [St.get_put _ _ _ _ hp, if_neg h]
theorem b_add (k : IntKind) (a b : Int) : aBin .add (.sc (.int k a)) (.sc (.int k b)) = aInt .add k a b := by simp [aBin]
theorem b_sub (k : IntKind) (a b : Int) : aBin .sub (.sc (.int k a)) (.sc (.int k b)) = aInt .sub k a b := by simp [aBin]
theorem b_mul (k : IntKind) (a b : Int) : aBin .mul (.sc (.int k a)) (.sc (.int k b)) = aInt .mul k a b := by simp [aBin]
theorem b_quo (k : IntKind) (a b : Int) : aBin .quo (.sc (.int k a)) (.sc (.int k b)) = aInt .quo k a b := by simp [aBin]
theorem b_rem (k : IntKind) (a b : Int) : aBin .rem (.sc (.int k a)) (.sc (.int k b)) = aInt .rem k a b := by simp [aBin]
theorem b_and (k : IntKind) (a b : Int) : aBin .and (.sc (.int k a)) (.sc (.int k b)) = aInt .and k a b := by simp [aBin]
theorem b_or (k : IntKind) (a b : Int) : aBin .or (.sc (.int k a)) (.sc (.int k b)) = aInt .or k a b := by simp [aBin]
theorem b_xor (k : IntKind) (a b : Int) : aBin .xor (.sc (.int k a)) (.sc (.int k b)) = aInt .xor k a b := by simp [aBin]
theorem b_eql (k : IntKind) (a b : Int) : aBin .eql (.sc (.int k a)) (.sc (.int k b)) = aInt .eql k a b := by simp [aBin]
theorem b_neq (k : IntKind) (a b : Int) : aBin .neq (.sc (.int k a)) (.sc (.int k b)) = aInt .neq k a b := by simp [aBin]
theorem b_lss (k : IntKind) (a b : Int) : aBin .lss (.sc (.int k a)) (.sc (.int k b)) = aInt .lss k a b := by simp [aBin]
theorem b_leq (k : IntKind) (a b : Int) : aBin .leq (.sc (.int k a)) (.sc (.int k b)) = aInt .leq k a b := by simp [aBin]
theorem b_gtr (k : IntKind) (a b : Int) : aBin .gtr (.sc (.int k a)) (.sc (.int k b)) = aInt .gtr k a b := by simp [aBin]
theorem b_geq (k : IntKind) (a b : Int) : aBin .geq (.sc (.int k a)) (.sc (.int k b)) = aInt .geq k a b := by simp [aBin]
structure Chk where
 op : AOp
 ρ : Env
 v : V
 see : List Nat
def chkSee (x : St → Option (V × St)) (v : V) (ss : List St) : List Nat → Bool
 | [] => true
 | c :: cs => (match ss[c]? with
  | some σ => decide ((x σ).map (·.1) = some v)
  | none => false) && chkSee x v ss cs
def chkAll (call : CallF) (ss : List St) : List Chk → Bool
 | [] => true
 | c :: cs => chkSee (fun σ => c.op.run call c.ρ σ) c.v ss c.see && chkAll call ss cs
def chkAdd (o : AOp) (see : List Nat) (ρ : Env) (v : V) (l : List Chk) : List Chk :=
 match see with
 | [] => l
 | s :: see => ⟨o, ρ, v, s :: see⟩ :: l
def effAdd (o : AOp) (σ : St) (ss : List St) : List St := match o.kind with | .effect => ss ++ [σ] | _ => ss
def drw (call : CallF) : List AOper → Env → St → List Chk → List St → Option (Env × St)
 | [], ρ, σ, l, ss => cond (chkAll call (ss ++ [σ]) l) (some (ρ, σ)) none
 | o :: os, ρ, σ, l, ss => cond (wanted ρ o.guard) ((o.op.run call ρ σ).bind fun x => drw call os (put ρ o.dst x.1) x.2 (chkAdd o.op o.see ρ x.1 l) (effAdd o.op σ ss)) (drw call os (put ρ o.dst .undef) σ l (effAdd o.op σ ss))
theorem chkSee_eq {x : St → Option (V × St)} {v : V} {ss : List St} : ∀ {see : List Nat}, chkSee x v ss see = see.all fun c => match ss[c]? with
  | some σ => decide ((x σ).map (·.1) = some v)
  | none => false
 | [] => rfl
 | c :: cs => by simp only [chkSee, List.all_cons, chkSee_eq]
theorem chkAdd_ok {call : CallF} {o : AOper} {ρ : Env} {v : V} {l : List Chk} {ss : List St} : chkAll call ss (chkAdd o.op o.see ρ v l) = (Step.alike call ss ⟨o, ρ, v, true⟩ && chkAll call ss l) := by
 unfold chkAdd
 split
 · rename_i h; simp [Step.alike, h]
 · rename_i s see h
   simp only [chkAll, chkSee_eq, Step.alike, Bool.not_true, Bool.false_or, h]
   rfl
theorem drw_eq {call : CallF} : ∀ {os : List AOper} {ρ : Env} {σ : St} {l : List Chk} {ss : List St},
  drw call os ρ σ l ss = (traceOps call os ρ σ).bind fun x => if (chkAll call (ss ++ x.2.1) l && x.1.all (Step.alike call (ss ++ x.2.1))) = true then some x.2.2 else none
 | [], ρ, σ, l, ss => by
  simp only [drw, traceOps, Option.bind_some, List.all_nil, Bool.and_true]
  cases chkAll call (ss ++ [σ]) l <;> rfl
 | o :: os, ρ, σ, l, ss => by
  simp only [drw, traceOps]
  have he : ∀ t : List St, effAdd o.op σ ss ++ t = ss ++ (if o.op.kind = .effect then σ :: t else t) := by
   intro t
   unfold effAdd
   cases o.op.kind <;> simp
  cases wanted ρ o.guard
  · simp only [cond_false]
    rw [drw_eq]
    cases traceOps call os (put ρ o.dst .undef) σ with
    | none => rfl
    | some x =>
     obtain ⟨l', ss', r⟩ := x
     simp only [Option.bind_some, Option.map_some, he, List.all_cons]
     simp [Step.alike]
  · simp only [cond_true]
    cases o.op.run call ρ σ with
    | none => rfl
    | some y =>
     obtain ⟨v, σ'⟩ := y
     simp only [Option.bind_some]
     rw [drw_eq]
     cases traceOps call os (put ρ o.dst v) σ' with
     | none => rfl
     | some x =>
      obtain ⟨l', ss', r⟩ := x
      simp only [Option.bind_some, Option.map_some, he, List.all_cons, chkAdd_ok]
      congr 2
      rw [Bool.and_comm (Step.alike _ _ _), Bool.and_assoc]
def stD (call : CallF) (d : Option Nat) (op : AOp) (see : List Nat) (os : List AOper) (ρ : Env) (σ : St) (l : List Chk) (ss : List St) : Option (V × St) → Option (Env × St)
 | some (v, σ') => drw call os (put ρ d v) σ' (chkAdd op see ρ v l) (effAdd op σ ss)
 | none => none
def stDG (call : CallF) (d : Option Nat) (op : AOp) (see : List Nat) (os : List AOper) (ρ : Env) (σ : St) (l : List Chk) (ss : List St) (b : Bool) : V → Option (Env × St)
 | .sc (.bool c) => cond (c == b) (stD call d op see os ρ σ l ss (op.run call ρ σ)) (drw call os (put ρ d .undef) σ l (effAdd op σ ss))
 | _ => drw call os (put ρ d .undef) σ l (effAdd op σ ss)
def stE (ρ : Env) (σ : St) : Bool → Option (Env × St)
 | true => some (ρ, σ)
 | false => none
theorem d_draw {cy : YlF → FnF} {ys : YlF} {fuel : Nat} {os : List AOper} {ρ : Env} {σ : St} : exec cy ys fuel (.region true os) ρ σ = stReg (drw ⟨cy ys, ys⟩ os ρ σ [] []) := by
 have h : drw ⟨cy ys, ys⟩ os ρ σ [] [] = runDraw ⟨cy ys, ys⟩ os ρ σ := by
  rw [drw_eq]
  simp only [runDraw, chkAll, List.nil_append, Bool.true_and]
 simp only [exec, h]
 cases runDraw ⟨cy ys, ys⟩ os ρ σ <;> rfl
theorem d_nil {call : CallF} {ρ : Env} {σ : St} {l : List Chk} {ss : List St} : drw call [] ρ σ l ss = stE ρ σ (chkAll call (ss ++ [σ]) l) := by
 simp only [drw]; cases chkAll call (ss ++ [σ]) l <;> rfl
theorem d_e {ρ : Env} {σ : St} : stE ρ σ true = some (ρ, σ) := rfl
theorem d_cons {call : CallF} {d : Option Nat} {op : AOp} {s : List Nat} {os : List AOper} {ρ : Env} {σ : St} {l : List Chk} {ss : List St} : drw call (⟨d, op, none, s⟩ :: os) ρ σ l ss = stD call d op s os ρ σ l ss (op.run call ρ σ) := by
 simp only [drw, wanted, cond_true]
 cases op.run call ρ σ <;> rfl
theorem d_consG {call : CallF} {d : Option Nat} {op : AOp} {t : Nat} {b : Bool} {s : List Nat} {os : List AOper} {ρ : Env} {σ : St} {l : List Chk} {ss : List St} : drw call (⟨d, op, some (t, b), s⟩ :: os) ρ σ l ss = stDG call d op s os ρ σ l ss b (ρ t) := by
 simp only [drw, wanted]
 cases ρ t with
 | sc a =>
  cases a with
  | bool c =>
   simp only [stDG]
   cases c == b
   · rfl
   · simp only [cond_true]; cases op.run call ρ σ <;> rfl
  | _ => rfl
 | _ => rfl
section
variable {call : CallF} {d : Option Nat} {op : AOp} {s : List Nat} {os : List AOper} {ρ : Env} {σ σ' : St} {l : List Chk} {ss : List St} {v : V}
theorem d_op : stD call d op s os ρ σ l ss (some (v, σ')) = drw call os (put ρ d v) σ' (chkAdd op s ρ v l) (effAdd op σ ss) := rfl
theorem d_gtt : stDG call d op s os ρ σ l ss true (.sc (.bool true)) = stD call d op s os ρ σ l ss (op.run call ρ σ) := rfl
theorem d_gff : stDG call d op s os ρ σ l ss false (.sc (.bool false)) = stD call d op s os ρ σ l ss (op.run call ρ σ) := rfl
theorem d_gtf : stDG call d op s os ρ σ l ss true (.sc (.bool false)) = drw call os (put ρ d .undef) σ l (effAdd op σ ss) := rfl
theorem d_gft : stDG call d op s os ρ σ l ss false (.sc (.bool true)) = drw call os (put ρ d .undef) σ l (effAdd op σ ss) := rfl
theorem w_dop {x : Option (V × St)} {Q : Env × St → Prop} (h : W x fun a => W (stD call d op s os ρ σ l ss (some a)) Q) : W (stD call d op s os ρ σ l ss x) Q := w_strict h
end
theorem s_gu {call : CallF} {d : Option Nat} {op : AOp} {os : List AOper} {ρ : Env} {σ : St} {b : Bool} : stG call d op os ρ σ b .undef = runOps call os (put ρ d .undef) σ := rfl
theorem d_gu {call : CallF} {d : Option Nat} {op : AOp} {s : List Nat} {os : List AOper} {ρ : Env} {σ : St} {l : List Chk} {ss : List St} {b : Bool} : stDG call d op s os ρ σ l ss b .undef = drw call os (put ρ d .undef) σ l (effAdd op σ ss) := rfl
theorem w_good {x : Option (V × St)} (h : W x fun o => o.1 = .sc (.bool true)) : good x = true := by
 obtain ⟨⟨v, σ⟩, rfl, h2⟩ := h
 simp only at h2
 subst h2
 rfl
end
end Go.Ab
