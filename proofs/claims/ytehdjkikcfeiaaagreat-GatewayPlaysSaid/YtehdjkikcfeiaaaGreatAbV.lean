/- Steps over turned code; slices that are read, slices that grow. -/
import Derived.Test.YtehdjkikcfeiaaaGreatAbU
import Derived.Test.YtehdjkikcfeiaaaGreatAbA
namespace Go.Ab
set_option linter.unusedVariables false
set_option linter.unusedSimpArgs false
section
theorem nbf {b : Bool} (h : (!b) = true) : b = false := by simpa using h
theorem nbt {b : Bool} (h : (!(!b)) = true) : b = true := by simpa using h
theorem upd_o {ρ : Env} {d t : Nat} {v : V} (h : Nat.beq t d = false) : upd ρ d v t = ρ t := by simp [upd, h]
theorem upd_s {ρ : Env} {d t : Nat} {v : V} (h : Nat.beq t d = true) : upd ρ d v t = v := by simp [upd, h]
theorem x_reg {σ : St} {x : V} : XOp.reg.run σ [x] = if x.cellsOf.all V.oneCell = true then some (.agg x.cellsOf, σ.bump) else none := rfl
theorem x_rput {σ : St} {off n : Nat} {cs : List V} {x : V} : (XOp.rput off n).run σ [.agg cs, x] = if x.cellsOf.length = n ∧ off + n ≤ cs.length ∧ x.cellsOf.all V.oneCell = true then some (.agg (splice cs off x.cellsOf), σ) else none := rfl
theorem p_agg {off : Nat} {n : Option Nat} {cs : List V} : aPartOf off n (.agg cs) = aPart cs off n := rfl
theorem Kept.bump {X : Nat → Prop} {σ σ' : St} (h : Kept X σ σ') : Kept X σ σ'.bump :=
 ⟨Nat.le_succ_of_le h.n, fun o y hx ho => by rw [St.get_bump]; exact h.get o y hx ho⟩
theorem Kept.any {X : Nat → Prop} {σ σ' : St} (h : Kept noX σ σ') : Kept X σ σ' := h.sub fun _ h => h.elim
theorem Kept.eq {X : Nat → Prop} {σ σ' : St} (k : Kept X σ σ') {o : Nat} (hx : ¬ X o) (h : (σ.get o).isSome = true) : σ'.get o = σ.get o := by
 obtain ⟨x, hx'⟩ := Option.isSome_iff_exists.1 h
 rw [k.get o x hx hx', hx']
section cells
variable {a : Sc} {l : List UInt8} {o f z n : Nat} {cs : List V} {w : Own} {lim : Option Nat} {g : Fn} {x y : List V} {t : TypeId} {v : V}
theorem c_agg : (V.agg cs).cellsOf = cs := rfl
theorem c_sc : (V.sc a).cellsOf = [.sc a] := rfl
theorem c_str : (V.str l).cellsOf = [.str l] := rfl
theorem c_ptr : (V.ptr o f).cellsOf = [.ptr o f] := rfl
theorem c_elt : (V.elt cs f).cellsOf = [.elt cs f] := rfl
theorem c_vs : (V.vs w z n cs).cellsOf = [.vs w z n cs] := rfl
theorem c_os : (V.os o f z n lim).cellsOf = [.os o f z n lim] := rfl
theorem c_mp : (V.mp o).cellsOf = [.mp o] := rfl
theorem c_fn : (V.fn g x y).cellsOf = [.fn g x y] := rfl
theorem c_ifc : (V.ifc t v).cellsOf = [.ifc t v] := rfl
theorem o_sc : (V.sc a).oneCell = true := rfl
theorem o_str : (V.str l).oneCell = true := rfl
theorem o_ptr : (V.ptr o f).oneCell = true := rfl
theorem o_elt : (V.elt cs f).oneCell = true := rfl
theorem o_vs : (V.vs w z n cs).oneCell = true := rfl
theorem o_os : (V.os o f z n lim).oneCell = true := rfl
theorem o_mp : (V.mp o).oneCell = true := rfl
theorem o_fn : (V.fn g x y).oneCell = true := rfl
theorem o_ifc : (V.ifc t v).oneCell = true := rfl
end cells
def Cell1 (v : V) : Prop := v.cellsOf = [v] ∧ v.oneCell = true
theorem splice1 {cs : List V} {k : Nat} {x : V} (h : k < cs.length) : splice cs k [x] = cs.set k x := by
 unfold splice
 rw [List.set_eq_take_append_cons_drop, if_pos h]
 simp
theorem sp_zero {cs ds : List V} : splice cs 0 ds = ds ++ cs.drop ds.length := by simp [splice]
theorem sp_succ {a : V} {cs ds : List V} {k : Nat} : splice (a :: cs) (k + 1) ds = a :: splice cs k ds := by
 simp only [splice, List.take_succ_cons, List.cons_append]
 rw [show k + 1 + ds.length = (k + ds.length) + 1 by omega, List.drop_succ_cons]
theorem arr_ok {o off len sz i : Nat} (h : i < len) : aArrAddr len sz (.ptr o off) (.sc (.int .i64 i)) = some (.ptr o (off + i * sz)) := by
 have : (0 : Int) ≤ i ∧ (i : Int) < len := by omega
 simp [aArrAddr, aIdx, this, aPlace]
theorem set_self {cs : List V} {k : Nat} {x : V} (h : k < cs.length) : (cs.set k x)[k]? = some x := by simp [h]
theorem splice_at {cs ds : List V} {k : Nat} (h : k + ds.length ≤ cs.length) (i : Nat) : (splice cs k ds)[i]? = if k ≤ i ∧ i < k + ds.length then ds[i - k]? else cs[i]? := by
 unfold splice
 by_cases h1 : i < k
 · rw [if_neg (by omega), List.append_assoc, List.getElem?_append_left (by rw [List.length_take]; omega), List.getElem?_take, if_pos h1]
 · by_cases h2 : i < k + ds.length
   · rw [if_pos ⟨by omega, h2⟩, List.append_assoc, List.getElem?_append_right (by rw [List.length_take]; omega), List.length_take, Nat.min_eq_left (by omega), List.getElem?_append_left (by omega)]
   · rw [if_neg (by omega), List.getElem?_append_right (by rw [List.length_append, List.length_take]; omega), List.length_append, List.length_take, Nat.min_eq_left (by omega), List.getElem?_drop]
     congr 1; omega
theorem splice_len {cs ds : List V} {k : Nat} (h : k + ds.length ≤ cs.length) : (splice cs k ds).length = cs.length := by
 unfold splice
 simp only [List.length_append, List.length_take, List.length_drop]
 omega
theorem take_cells {cs es : List V} {k : Nat} (h : ∀ i, i < es.length → cs[k + i]? = es[i]?) : k + es.length ≤ cs.length ∨ es = [] → (cs.drop k).take es.length = es := by
 intro hl
 rcases hl with hl | rfl
 · refine List.ext_getElem? fun i => ?_
   rw [List.getElem?_take]
   by_cases hi : i < es.length
   · rw [if_pos hi, List.getElem?_drop, h i hi]
   · rw [if_neg hi, List.getElem?_eq_none (by omega)]
 · simp
inductive RV (sz : Nat) : V → List (List V) → Prop
 | nil : RV sz (.sc .nilS) []
 | odd {a : Addr} : RV sz (.sc (.oddS a)) []
 | vs {own : Own} {es : List (List V)} (h : ∀ e ∈ es, e.length = sz) (h2 : ∀ e ∈ es, e.all V.oneCell = true) : RV sz (.vs own sz es.length es.flatten) es
theorem RV.len {sz : Nat} {v : V} {es : List (List V)} (h : RV sz v es) : aLen v = some (.sc (.int .i64 es.length)) := by cases h <;> rfl
theorem RV.size {sz : Nat} {v : V} {es : List (List V)} (h : RV sz v es) : slSize sz v = true := by cases h <;> first | rfl | simp [slSize]
theorem RV.cell {sz : Nat} {v : V} {es : List (List V)} (h : RV sz v es) : v.cellsOf = [v] ∧ v.oneCell = true := by cases h <;> exact ⟨rfl, rfl⟩
theorem RV.all {sz : Nat} {v : V} {es : List (List V)} (h : RV sz v es) : (∀ e ∈ es, e.length = sz) ∧ ∀ e ∈ es, e.all V.oneCell = true := by
 cases h with
 | nil => simp
 | odd => simp
 | vs h h2 => exact ⟨h, h2⟩
theorem RV.flat1 {sz : Nat} {v : V} {es : List (List V)} (h : RV sz v es) : es.flatten.all V.oneCell = true := by
 rw [List.all_eq_true]
 intro x hx
 obtain ⟨e, he, hx⟩ := List.mem_flatten.1 hx
 exact List.all_eq_true.1 (h.all.2 e he) x hx
theorem RV.at {sz : Nat} {v : V} {es : List (List V)} (h : RV sz v es) {i : Nat} (hi : i < es.length) : aSlAddr v (.sc (.int .i64 i)) = some (.elt es.flatten (i * sz)) ∧ (i * sz + sz ≤ es.flatten.length) = True ∧ (es.flatten.drop (i * sz)).take sz = es[i] := by
 cases h with
 | nil => simp at hi
 | odd => simp at hi
 | vs h h2 =>
  obtain ⟨p1, p2⟩ := flat_at h (i := i) (x := es[i]) (List.getElem?_eq_getElem hi)
  refine ⟨?_, by simp only [eq_iff_iff, iff_true]; exact p1, p2⟩
  have : (0 : Int) ≤ i ∧ (i : Int) < es.length := by omega
  simp [aSlAddr, aIdx, this]
theorem RV.cellAt {sz : Nat} {v : V} {es : List (List V)} (h : RV sz v es) {i j : Nat} (hi : i < es.length) (hj : j < sz) : es.flatten[i * sz + j]? = es[i][j]? := by
 obtain ⟨_, _, h3⟩ := h.at hi
 have := congrArg (fun l => l[j]?) h3
 simp only [List.getElem?_take, List.getElem?_drop, if_pos hj] at this
 exact this
theorem RV.src {σ : St} {sz : Nat} {v : V} {es : List (List V)} (h : RV sz v es) : aSrc σ sz v = some (es.length, es.flatten) := by
 cases h with
 | nil => rfl
 | odd => rfl
 | vs => simp only [aSrc, if_true]
theorem flat_take_sz {sz : Nat} {es : List (List V)} (h : ∀ e ∈ es, e.length = sz) (i : Nat) : es.flatten.take (i * sz) = (es.take i).flatten := by
 induction i generalizing es with
 | zero => simp
 | succ i ih =>
  cases es with
  | nil => simp
  | cons e es =>
   have he := h e List.mem_cons_self
   rw [List.take_succ_cons, List.flatten_cons, List.flatten_cons, ← ih fun x hx => h x (List.mem_cons_of_mem _ hx), show (i + 1) * sz = e.length + i * sz by rw [he, Nat.succ_mul, Nat.add_comm], List.take_length_add_append]
theorem flat_drop_sz {sz : Nat} {es : List (List V)} (h : ∀ e ∈ es, e.length = sz) (i : Nat) : es.flatten.drop (i * sz) = (es.drop i).flatten := by
 induction i generalizing es with
 | zero => simp
 | succ i ih =>
  cases es with
  | nil => simp
  | cons e es =>
   have he := h e List.mem_cons_self
   rw [List.drop_succ_cons, List.flatten_cons, ← ih fun x hx => h x (List.mem_cons_of_mem _ hx), show (i + 1) * sz = e.length + i * sz by rw [he, Nat.succ_mul, Nat.add_comm], List.drop_append, List.drop_of_length_le (by omega), List.nil_append]
   congr 1; omega
theorem RV.take {sz : Nat} {v : V} {es : List (List V)} (h : RV sz v es) {i : Nat} (hi : i ≤ es.length) : ∃ y, (∀ σ, aSliceR σ v none (some (.sc (.int .i64 i))) none = some y) ∧ RV sz y (es.take i) := by
 cases h with
 | nil =>
  simp at hi; subst hi
  exact ⟨.sc .nilS, fun _ => rfl, by simpa using RV.nil⟩
 | @odd a =>
  simp at hi; subst hi
  exact ⟨.sc (.oddS a), fun _ => rfl, by simpa using RV.odd⟩
 | @vs own _ h h2 =>
  have e1 : (0 : Int) ≤ i ∧ (i : Int) ≤ es.length := by omega
  have e3 : (es.take i).length = i := by rw [List.length_take]; omega
  have := fun own => RV.vs (own := own) (es := es.take i) (fun e he => h e (List.mem_of_mem_take he)) (fun e he => h2 e (List.mem_of_mem_take he))
  refine ⟨_, fun _ => by simp only [aSliceR, aSlice, aBounds, aBnd, e1, and_self, if_true, Option.bind_some, Int.toNat_natCast, Option.map_some]; rfl, ?_⟩
  rw [e3] at this
  simp only [Nat.sub_zero, Nat.zero_mul, List.drop_zero]
  rw [flat_take_sz h]
  exact this _
theorem RV.drop {sz : Nat} {v : V} {es : List (List V)} (h : RV sz v es) {i : Nat} (hi : i ≤ es.length) : ∃ y, (∀ σ, aSliceR σ v (some (.sc (.int .i64 i))) none none = some y) ∧ RV sz y (es.drop i) := by
 cases h with
 | nil =>
  simp at hi; subst hi
  exact ⟨.sc .nilS, fun _ => rfl, by simpa using RV.nil⟩
 | @odd a =>
  simp at hi; subst hi
  exact ⟨.sc (.oddS a), fun _ => rfl, by simpa using RV.odd⟩
 | @vs own _ h h2 =>
  have e2 : (0 : Int) ≤ i ∧ (i : Int) ≤ (es.length : Int) := by omega
  have := fun own => RV.vs (own := own) (es := es.drop i) (fun e he => h e (List.mem_of_mem_drop he)) (fun e he => h2 e (List.mem_of_mem_drop he))
  refine ⟨_, fun _ => by simp only [aSliceR, aSlice, aBounds, aBnd, e2, and_self, if_true, Option.bind_some, Int.toNat_natCast, Option.map_some]; rfl, ?_⟩
  rw [List.length_drop] at this
  rw [flat_drop_sz h, List.take_of_length_le]
  · exact this _
  · rw [flat_len (sz := sz) (fun e he => h e (List.mem_of_mem_drop he)), List.length_drop]; exact Nat.le_refl _
mutual
theorem Arg.one : ∀ (T : Ty) (xs : List V), Arg T xs → xs.all V.oneCell = true
 | .bool, xs, h => by simp only [Arg] at h; obtain ⟨b, rfl⟩ := h; rfl
 | .int k, xs, h => by simp only [Arg] at h; obtain ⟨b, rfl, _⟩ := h; rfl
 | .str, xs, h => by simp only [Arg] at h; obtain ⟨b, rfl, _⟩ := h; rfl
 | .agg ts, xs, h => by simp only [Arg] at h; exact ArgL.one ts xs h
 | .sl e, xs, h => by
  simp only [Arg] at h
  rcases h with rfl | ⟨a, rfl⟩ | ⟨es, _, rfl, _⟩ <;> rfl
theorem ArgL.one : ∀ (ts : List Ty) (xs : List V), ArgL ts xs → xs.all V.oneCell = true
 | [], xs, h => by simp only [ArgL] at h; subst h; rfl
 | t :: ts, xs, h => by
  simp only [ArgL] at h
  obtain ⟨a, b, rfl, h1, h2⟩ := h
  rw [List.all_append, Arg.one t a h1, ArgL.one ts b h2]; rfl
end
theorem rv_slA {T : Ty} {x : V} (h : ArgA (.sl T) x) : ∃ es, RV T.size x es ∧ (∀ e ∈ es, Arg T e) ∧ es.length ≤ maxLen ∧ es.length * T.low ≤ reachBytes := by
 simp only [ArgA] at h
 rcases h with rfl | ⟨es, h1, rfl, h2⟩
 · exact ⟨[], .nil, by simp, by simp, by simp⟩
 · exact ⟨es, .vs (fun e he => Arg.length T e (h1 e he)) fun e he => Arg.one T e (h1 e he), h1, h2⟩
theorem wf64 {n : Int} (h : (Lit.int .i64 n).wf = true) : -9223372036854775808 ≤ n ∧ n ≤ 9223372036854775807 := by
 have e1 : IntKind.i64.min = -9223372036854775808 := rfl
 have e2 : IntKind.i64.max = 9223372036854775807 := rfl
 simpa [Lit.wf, e1, e2] using h
inductive Ow (lo : Nat) (σ : St) (sz : Nat) : V → List (List V) → Prop
 | nil : Ow lo σ sz (.sc .nilS) []
 | exact {es : List (List V)} (h : ∀ e ∈ es, e.length = sz) (h2 : ∀ e ∈ es, e.all V.oneCell = true) : Ow lo σ sz (.vs .exact sz es.length es.flatten) es
 | tok {t : Nat} {es : List (List V)} (h : ∀ e ∈ es, e.length = sz) (h2 : ∀ e ∈ es, e.all V.oneCell = true) (h3 : σ.get t = some .tok) (h4 : lo ≤ t) : Ow lo σ sz (.vs (.tok t) sz es.length es.flatten) es
theorem Ow.rv {lo : Nat} {σ : St} {sz : Nat} {v : V} {es : List (List V)} (h : Ow lo σ sz v es) : RV sz v es := by
 cases h with
 | nil => exact .nil
 | exact h h2 => exact .vs h h2
 | tok h h2 => exact .vs h h2
theorem Ow.kept {lo : Nat} {σ σ' : St} {sz : Nat} {v : V} {es : List (List V)} (h : Ow lo σ sz v es) {X : Nat → Prop} (k : Kept X σ σ') (hx : ∀ o, X o → σ.get o ≠ some .tok) : Ow lo σ' sz v es := by
 cases h with
 | nil => exact .nil
 | exact h h2 => exact .exact h h2
 | tok h h2 h3 h4 => exact .tok h h2 (k.get _ _ (fun hq => hx _ hq h3) h3) h4
theorem Ow.kept0 {lo : Nat} {σ σ' : St} {sz : Nat} {v : V} {es : List (List V)} (h : Ow lo σ sz v es) (k : Kept noX σ σ') : Ow lo σ' sz v es := h.kept k fun _ h => h.elim
structure Grown (lo : Nat) (σ σ' : St) : Prop where
 n : σ.n ≤ σ'.n
 get : ∀ o x, σ.get o = some x → o < lo ∨ x ≠ .tok → σ'.get o = some x
theorem Grown.kept {lo : Nat} {σ0 σ σ' : St} (g : Grown lo σ σ') (k : Kept noX σ0 σ) (h : σ0.n ≤ lo) : Kept noX σ0 σ' :=
 ⟨Nat.le_trans k.n g.n, fun o x hx ho => g.get o x (k.get o x hx ho) (.inl (Nat.lt_of_lt_of_le (St.get_lt ho) h))⟩
theorem Grown.keptX {X : Nat → Prop} {lo : Nat} {σ0 σ σ' : St} (g : Grown lo σ σ') (k : Kept X σ0 σ) (h : σ0.n ≤ lo) : Kept X σ0 σ' :=
 ⟨Nat.le_trans k.n g.n, fun o x hx ho => g.get o x (k.get o x hx ho) (.inl (Nat.lt_of_lt_of_le (St.get_lt ho) h))⟩
theorem Grown.refl (lo : Nat) (σ : St) : Grown lo σ σ := ⟨Nat.le_refl _, fun _ _ h _ => h⟩
theorem Grown.cells {lo : Nat} {σ σ' : St} (g : Grown lo σ σ') {o : Nat} {cs : List V} (h : σ.get o = some (.cells cs)) : σ'.get o = some (.cells cs) := g.get o _ h (.inr (by simp))
theorem grow_ok {lo : Nat} {σ : St} {sz bytes : Nat} {x y : V} {es ms : List (List V)} (hx : Ow lo σ sz x es) (hy : RV sz y ms) (hl : lo ≤ σ.n) (hb : (es.length + ms.length) * bytes ≤ roomB) (hb2 : es.length + ms.length ≤ roomB) :
  W (aAppend false sz bytes σ x y) fun r => Ow lo r.2 sz r.1 (es ++ ms) ∧ Grown lo σ r.2 := by
 have hall := hy.flat1
 have hms := hy.all
 by_cases hm : ms.length = 0
 · have : ms = [] := List.length_eq_zero_iff.1 hm
   subst this
   refine ⟨(x, σ), ?_, by rw [List.append_nil]; exact hx, Grown.refl _ _⟩
   simp only [aAppend, hy.src, Option.bind_some, List.length_nil, if_true]
   cases hx <;> simp [aSame]
 have hfl : ∀ l : List (List V), (∀ e ∈ l, e.length = sz) → l.flatten.length = l.length * sz := fun l h => flat_len h
 have glue : ∀ t σ', (∀ e ∈ es, e.length = sz) → (∀ e ∈ es, e.all V.oneCell = true) → σ'.get t = some .tok → lo ≤ t → Ow lo σ' sz (.vs (.tok t) sz (es.length + ms.length) (es.flatten ++ ms.flatten)) (es ++ ms) := by
  intro t σ' h1 h2 h3 h4
  have := Ow.tok (lo := lo) (σ := σ') (sz := sz) (t := t) (es := es ++ ms) (fun e he => by rcases List.mem_append.1 he with he | he; exact h1 e he; exact hms.1 e he) (fun e he => by rcases List.mem_append.1 he with he | he; exact h2 e he; exact hms.2 e he) h3 h4
  rwa [List.length_append, List.flatten_append] at this
 cases hx with
 | nil =>
  refine ⟨(.vs (.tok σ.n) sz ms.length ms.flatten, σ.push .tok), ?_, ?_, ?_⟩
  · simp only [List.length_nil, Nat.zero_add] at hb hb2
    simp only [aAppend, hy.src, Option.bind_some, hm, if_false, hall, if_true, aGrow, aFresh, Nat.zero_add, hb, hb2, List.length_nil, Nat.zero_mul, and_self, List.nil_append, Bool.false_eq_true]
  · have := glue σ.n (σ.push .tok) (by simp) (by simp) get_push_self hl
    simpa using this
  · exact ⟨Nat.le_succ _, fun o x h _ => get_push_lt h⟩
 | exact h h2 =>
  refine ⟨(.vs (.tok σ.n) sz (es.length + ms.length) (es.flatten ++ ms.flatten), σ.push .tok), ?_, glue _ _ h h2 get_push_self hl, ⟨Nat.le_succ _, fun o x h _ => get_push_lt h⟩⟩
  simp only [aAppend, hy.src, Option.bind_some, hm, if_false, hall, if_true, aGrow, aFresh, hb, hb2, hfl es h, and_self, Bool.false_eq_true]
 | @tok t _ h h2 h3 h4 =>
  have ht := St.get_lt h3
  refine ⟨(.vs (.tok σ.n) sz (es.length + ms.length) (es.flatten ++ ms.flatten), (σ.put t none).push .tok), ?_, glue _ _ h h2 ?_ hl, ⟨Nat.le_succ _, fun o x hg ho => ?_⟩⟩
  · simp only [aAppend, hy.src, Option.bind_some, hm, if_false, hall, if_true, aGrow, aTok, h3, hb, hb2, and_self, St.n_put]
  · rw [St.get_push]; simp [St.n_put]
  · refine get_push_lt (get_put_other ht ?_ hg)
    rintro rfl
    rcases ho with ho | ho
    · omega
    · rw [h3] at hg; cases hg; exact ho rfl
def zP := PLift.up (And.intro (And.intro (And.intro (And.intro (And.intro (And.intro (And.intro @BEq.rfl.{0} @Bool.and_self) (And.intro @Bool.and_true @Bool.false_eq_true)) (And.intro (And.intro @Bool.not_false @Bool.not_true) (And.intro @Bool.true_and @Int.cast_ofNat_Int))) (And.intro (And.intro (And.intro @Int.toNat_one @Int.toNat_zero) (And.intro @List.all_cons.{0} @List.all_nil.{0})) (And.intro (And.intro @List.append_nil.{0} @List.cons_append.{0}) (And.intro @List.drop_succ_cons.{0} (And.intro @List.drop_zero.{0} @List.getElem?_cons_succ.{0}))))) (And.intro (And.intro (And.intro (And.intro @List.getElem?_cons_zero.{0} @List.length_cons.{0}) (And.intro @List.length_nil.{0} @List.mapM_cons.{0,0,0})) (And.intro (And.intro @List.mapM_nil.{0,0,0} @List.map_cons.{0,0}) (And.intro @List.map_nil.{0,0} @List.nil_append.{0}))) (And.intro (And.intro (And.intro @List.take_succ_cons.{0} @List.take_zero.{0}) (And.intro @Nat.add_zero @Nat.le_refl)) (And.intro (And.intro @Nat.mul_one @Nat.succ_ne_zero) (And.intro @Nat.zero_add (And.intro @Option.bind_eq_bind.{0} @Option.bind_some.{0,0})))))) (And.intro (And.intro (And.intro (And.intro (And.intro @Option.getD_some.{0} @Option.map_none.{0,0}) (And.intro @Option.map_some.{0,0} @Option.pure_def.{0})) (And.intro (And.intro @St.get_bump @St.n_bump) (And.intro @St.n_push @St.n_put))) (And.intro (And.intro (And.intro @and_self @and_true) (And.intro @b_add @b_and)) (And.intro (And.intro @b_eql @b_geq) (And.intro @b_gtr (And.intro @b_leq @b_lss))))) (And.intro (And.intro (And.intro (And.intro @b_mul @b_neq) (And.intro @b_or @b_quo)) (And.intro (And.intro @b_rem @b_sub) (And.intro @b_xor (And.intro @beq_ff @beq_ft)))) (And.intro (And.intro (And.intro @beq_tf @beq_tt) (And.intro @bne_self_eq_false.{0} @c_agg)) (And.intro (And.intro @c_elt @c_fn) (And.intro @c_ifc (And.intro @c_mp @c_os))))))) (And.intro (And.intro (And.intro (And.intro (And.intro (And.intro @c_ptr @c_sc) (And.intro @c_str @c_vs)) (And.intro (And.intro @d_cons @d_consG) (And.intro @d_draw @d_e))) (And.intro (And.intro (And.intro @d_gff @d_gft) (And.intro @d_gtf @d_gtt)) (And.intro (And.intro @d_gu @d_nil) (And.intro @d_op (And.intro @decide_false @decide_true))))) (And.intro (And.intro (And.intro (And.intro @get_push_eq @get_push_ne) (And.intro @get_put_eq @get_put_ne)) (And.intro (And.intro @if_false.{1} @if_true.{1}) (And.intro @ne_eq.{1} @not_false_eq_true))) (And.intro (And.intro (And.intro @not_true_eq_false @o_elt) (And.intro @o_fn @o_ifc)) (And.intro (And.intro @o_mp @o_os) (And.intro @o_ptr (And.intro @o_sc @o_str)))))) (And.intro (And.intro (And.intro (And.intro (And.intro @o_vs @p_agg) (And.intro @s_block @s_blocke)) (And.intro (And.intro @s_blockn @s_blockr) (And.intro @s_cond @s_condf))) (And.intro (And.intro (And.intro @s_condt @s_cons) (And.intro @s_consG @s_exit)) (And.intro (And.intro @s_finn @s_finr) (And.intro @s_gff (And.intro @s_gft @s_gtf))))) (And.intro (And.intro (And.intro (And.intro @s_gtt @s_gu) (And.intro @s_nil @s_op)) (And.intro (And.intro @s_reg @s_region) (And.intro @s_ret (And.intro @s_seq @s_seqe)))) (And.intro (And.intro (And.intro @s_seqn @s_seqr) (And.intro @s_skip @true_and)) (And.intro (And.intro @upd_o @upd_s) (And.intro @w_some (And.intro @x_reg @x_rput))))))))
def zQ := PLift.up (And.intro (And.intro (And.intro @List.getElem?_set_ne.{0} @List.length_set.{0}) (And.intro @List.set_cons_succ.{0} @List.set_cons_zero.{0})) (And.intro (And.intro @set_self @sp_succ) (And.intro @sp_zero @splice1)))
def zR := PLift.up (And.intro (And.intro (And.intro (And.intro (And.intro (And.intro @aCallv.eq_1 (And.intro @aCallv.eq_2 @aCallv.eq_3)) (And.intro @aPtrEq.eq_1 (And.intro @aPtrEq.eq_2 @aPtrEq.eq_3))) (And.intro (And.intro @aPtrEq.eq_4 (And.intro @aPtrEq.eq_5 @aPtrEq.eq_6)) (And.intro @aPtrEq.eq_7 (And.intro @AOp.run.eq_1 @AOp.run.eq_2)))) (And.intro (And.intro (And.intro @AOp.run.eq_3 (And.intro @AOp.run.eq_4 @AOp.run.eq_5)) (And.intro @AOp.run.eq_6 (And.intro @AOp.run.eq_7 @AOp.run.eq_8))) (And.intro (And.intro @AOp.run.eq_9 (And.intro @AOp.run.eq_10 @AOp.run.eq_11)) (And.intro @AOp.run.eq_12 (And.intro @AOp.run.eq_13 @AOp.run.eq_14))))) (And.intro (And.intro (And.intro (And.intro @AOp.run.eq_15 (And.intro @AOp.run.eq_16 @AOp.run.eq_17)) (And.intro @AOp.run.eq_18 (And.intro @AOp.run.eq_19 @AOp.run.eq_20))) (And.intro (And.intro @AOp.run.eq_21 (And.intro @AOp.run.eq_22 @AOp.run.eq_23)) (And.intro @AOp.run.eq_24 (And.intro @AOp.run.eq_25 @AOp.run.eq_26)))) (And.intro (And.intro (And.intro @AOp.run.eq_27 (And.intro @AOp.run.eq_28 @AOp.run.eq_29)) (And.intro @AOp.run.eq_30 (And.intro @AOp.run.eq_31 @AOp.run.eq_32))) (And.intro (And.intro @AO.eval.eq_1 (And.intro @AO.eval.eq_2 @put.eq_1)) (And.intro (And.intro @put.eq_2 @aInt.eq_1) (And.intro @aInt.eq_2 @aInt.eq_3)))))) (And.intro (And.intro (And.intro (And.intro (And.intro @aInt.eq_4 (And.intro @aInt.eq_5 @aInt.eq_6)) (And.intro @aInt.eq_7 (And.intro @aInt.eq_8 @aInt.eq_9))) (And.intro (And.intro @aInt.eq_10 (And.intro @aInt.eq_11 @aInt.eq_12)) (And.intro @aInt.eq_13 (And.intro @aInt.eq_14 @aInt.eq_15)))) (And.intro (And.intro (And.intro @aInt.eq_16 (And.intro @initEnv.eq_1 @resultsOf.eq_1)) (And.intro @AR.get.eq_1 (And.intro @AR.get.eq_2 @AR.get.eq_3))) (And.intro (And.intro @aExtract.eq_1 (And.intro @aExtract.eq_2 @aStore.eq_1)) (And.intro (And.intro @aStore.eq_2 @aPart.eq_1) (And.intro @aPart.eq_2 @aPlace.eq_1))))) (And.intro (And.intro (And.intro (And.intro @aPlace.eq_2 (And.intro @aPlace.eq_3 @aArrIdx.eq_1)) (And.intro @aArrIdx.eq_2 (And.intro @aIdx.eq_1 @aIdx.eq_2))) (And.intro (And.intro @aLenStr.eq_1 (And.intro @aLenStr.eq_2 @aConv.eq_1)) (And.intro @aConv.eq_2 (And.intro @aMinMax.eq_1 @aMinMax.eq_2)))) (And.intro (And.intro (And.intro @aNilCheck.eq_1 (And.intro @aNilCheck.eq_2 @aNilCheck.eq_3)) (And.intro @aNilCheck.eq_4 (And.intro @fillV.eq_1 @fillV.eq_2))) (And.intro (And.intro @aEqBool.eq_1 (And.intro @aEqBool.eq_2 @aEqInt.eq_1)) (And.intro (And.intro @aEqInt.eq_2 @aEqStr.eq_1) (And.intro @aEqStr.eq_2 @wrap64)))))))
def zN := PLift.up (And.intro (And.intro (And.intro @St.n_push @St.n_put) (And.intro @St.n_bump @List.length_set.{0})) (And.intro @ne_eq.{1} @not_false_eq_true))
def zS := PLift.up (And.intro (And.intro (And.intro (And.intro @V.bool.eq_1 @V.i64.eq_1) (And.intro @aUn.eq_1 (And.intro @aUn.eq_2 @aUn.eq_3))) (And.intro (And.intro @aUn.eq_4 @aBox.eq_1) (And.intro @aLoad.eq_1 (And.intro @aLoad.eq_2 @aLoad.eq_3)))) (And.intro (And.intro (And.intro @aFold.eq_1 @aFold.eq_2) (And.intro @chkAdd.eq_1 (And.intro @chkAdd.eq_2 @effAdd.eq_1))) (And.intro (And.intro @chkAll.eq_1 (And.intro @chkAll.eq_2 @chkSee.eq_1)) (And.intro @chkSee.eq_2 (And.intro @AOper.o.eq_1 @AOper.p.eq_1)))))
def zT := PLift.up (And.intro (And.intro (And.intro @aEqV.eq_1 (And.intro @aEqV.eq_2 @aEqV.eq_3)) (And.intro @aEqV.eq_4 (And.intro @aEqV.eq_5 @aEqV.eq_6))) (And.intro (And.intro @aEqV.eq_7 (And.intro @aEqV.eq_8 @aEqV.eq_9)) (And.intro @aEqV.eq_10 (And.intro @aEqV.eq_11 @aArrAddr.eq_1))))
def zU := PLift.up (And.intro (And.intro zP.down zQ.down) (And.intro zR.down (And.intro zS.down zT.down)))
end
end Go.Ab
