/- Equality; lengths; conversions; making; clearing. -/
import Derived.Test.YtehdjkikcfeiaaaGreatAb8
import Derived.Laws.BytesString
namespace Go.Ab
open Go.RowKit
section
variable {P : Program} {G : Gh} {σ : St} {w : World}
inductive EqT where
 | int (k : IntKind) | bool | str | ptr | slice | map | func
 | struct (fs : List (Nat × Option Nat × EqT))
 | arr (len sz : Nat) (n : Option Nat) (e : EqT)
def aPtrEq (σ : St) (x y : V) : Option Bool :=
 match x, y with
 | .sc .nilP, .sc .nilP => some true
 | .sc .nilP, .ptr _ _ | .ptr _ _, .sc .nilP | .sc .nilP, .elt _ _ | .elt _ _, .sc .nilP => some false
 | .ptr o f, .ptr o' f' =>
  if o = o' then some (f == f') else
  match σ.get o, σ.get o' with
  | some (.cells cs), some (.cells cs') => if f < cs.length ∧ f' < cs'.length then some false else none
  | _, _ => none
 | _, _ => none
def allO (f : Nat → Option Bool) : Nat → Option Bool
 | 0 => some true
 | n + 1 => (allO f n).bind fun r => (f n).map fun s => r && s
def aEqInt (k : IntKind) (x y : V) : Option Bool :=
 match x, y with
 | .sc (.int k1 a), .sc (.int k2 b) => if k1 = k ∧ k2 = k then some (a == b) else none
 | _, _ => none
def aEqBool (x y : V) : Option Bool :=
 match x, y with
 | .sc (.bool a), .sc (.bool b) => some (a == b)
 | _, _ => none
def aEqStr (x y : V) : Option Bool :=
 match x, y with
 | .str a, .str b => some (decide (a = b))
 | _, _ => none
def aNilness (n : Sc) (f : V → Bool) (x y : V) : Option Bool :=
 match x, y with
 | .sc a, .sc b => if a = n ∧ b = n then some true else if a = n ∧ f (.sc b) = true then some false else if b = n ∧ f (.sc a) = true then some false else none
 | .sc a, y => if a = n ∧ f y = true then some false else none
 | x, .sc b => if b = n ∧ f x = true then some false else none
 | _, _ => none
def isSl : V → Bool | .vs _ _ _ _ => true | .os _ _ _ _ _ => true | .sc (.oddS _) => true | _ => false
def isMp : V → Bool | .mp _ => true | _ => false
def isFn : V → Bool | .fn _ _ _ => true | _ => false
mutual
def aEqV (σ : St) : EqT → V → V → Option Bool
 | .int k, x, y => aEqInt k x y
 | .bool, x, y => aEqBool x y
 | .str, x, y => aEqStr x y
 | .ptr, x, y => aPtrEq σ x y
 | .slice, x, y => aNilness .nilS isSl x y
 | .map, x, y => aNilness .nilM isMp x y
 | .func, x, y => aNilness .nilF isFn x y
 | .struct fs, x, y => match x, y with
  | .agg xs, .agg ys => aEqFs σ fs xs ys
  | _, _ => none
 | .arr len sz n e, x, y => match x, y with
  | .agg xs, .agg ys => allO (fun i => (aPart xs (i * sz) n).bind fun a => (aPart ys (i * sz) n).bind fun b => aEqV σ e a b) len
  | _, _ => none
def aEqFs (σ : St) : List (Nat × Option Nat × EqT) → List V → List V → Option Bool
 | [], _, _ => some true
 | (off, n, e) :: fs, xs, ys => (aPart xs off n).bind fun a => (aPart ys off n).bind fun b => (aEqV σ e a b).bind fun r => (aEqFs σ fs xs ys).map fun s => r && s
end
def tySize (P : Program) (t : TypeId) : Option (Option Nat) :=
 match P.info? t, P.underlying t with
 | some i, some (.struct _) | some i, some (.array ..) => some (some i.size)
 | some _, some _ => some none
 | _, _ => none
theorem tySize_ok {t : TypeId} {n : Option Nat} (h : tySize P t = some n) : TySize P t n := by
 unfold tySize at h
 split at h
 · rename_i i fs h1 h2; cases h; exact ⟨_, _, h1, h2, rfl⟩
 · rename_i i a b h1 h2; cases h; exact ⟨_, _, h1, h2, rfl⟩
 · rename_i i d h0 h3 h1 h2
   cases h
   refine ⟨_, _, h1, h2, ?_⟩
   cases d <;> first | rfl | exact absurd rfl (h0 _) | exact absurd rfl (h3 _ _)
 · cases h
def eqT (P : Program) : Nat → TypeId → Option EqT
 | 0, _ => none
 | d + 1, t =>
  match P.underlying t with
  | some (.int k) => some (.int k)
  | some .bool => some .bool
  | some .string => some .str
  | some (.pointer e) => match P.info? e with
   | some i => if i.size ≠ 0 then some .ptr else none
   | none => none
  | some (.slice _) => some .slice
  | some (.map _ _) => some .map
  | some (.func _ _ _) => some .func
  | some (.struct fs) => if P.stoodInHeld t then none else
   (fs.toList.mapM fun f => if f.name = "_" then none else (tySize P f.type).bind fun n => (eqT P d f.type).map fun e => (f.offset, n, e)).map .struct
  | some (.array len e) => match P.info? e with
   | some i => (tySize P e).bind fun n => (eqT P d e).map fun q => .arr len i.size n q
   | none => none
  | _ => none
theorem aPart_ok {cs : List V} {vs : List Value} {off : Nat} {n : Option Nat} {x : V} {t : TypeId} (ht : TySize P t n) (hr : RvL G w cs vs) (h : aPart cs off n = some x) :
  ∃ v, (part t vs.toArray off).run P w = .ok v w ∧ Rv G w x v := by
 obtain ⟨i, d, hi, hd, hn⟩ := ht
 exact part_ok t i hi d hd (by cases d <;> exact hn) hr h
theorem allO_all {f : Nat → Option Bool} : ∀ {n : Nat} {r : Bool}, allO f n = some r → ∃ g : Nat → Bool, (∀ i, i < n → f i = some (g i)) ∧ r = (List.range n).all g
 | 0, r, h => by cases h; exact ⟨fun _ => true, fun i hi => by omega, rfl⟩
 | n + 1, r, h => by
  simp only [allO, Option.bind_eq_some_iff, Option.map_eq_some_iff] at h
  obtain ⟨r1, h1, s, h2, rfl⟩ := h
  obtain ⟨g, k1, k2⟩ := allO_all h1
  refine ⟨fun i => if i = n then s else g i, fun i hi => ?_, ?_⟩
  · simp only
    split
    · rename_i hin; subst hin; exact h2
    · exact k1 i (by omega)
  · rw [List.range_succ, List.all_append, k2]
    congr 1
    · rw [Bool.eq_iff_iff]; simp only [List.all_eq_true, List.mem_range]
      constructor
      · intro h i hi; rw [if_neg (by omega)]; exact h i hi
      · intro h i hi; have := h i hi; rwa [if_neg (by omega)] at this
    · simp
theorem ptrEq_ok {x y : V} {vx vy : Value} {r : Bool} {t e : TypeId} {i : TypeInfo} (ht : P.underlying t = some (.pointer e)) (hi : P.info? e = some i) (hz : i.size ≠ 0) (hs : Rs G σ w) (hx : Rv G w x vx) (hy : Rv G w y vy)
  (h : aPtrEq σ x y = some r) (d : Nat) : (Op.equalIn (d + 1) t vx vy).run P w = .ok r w := by
 unfold aPtrEq at h
 split at h
 · have := scv hx; have := scv hy; subst_vars; cases h
   simp [Op.equalIn, run_underlying ht, Sc.val]
 · have := scv hx; subst this; simp only [Rv] at hy; obtain ⟨b, s, _, rfl⟩ := hy; cases h
   simp [Op.equalIn, run_underlying ht, Sc.val]
 · have := scv hy; subst this; simp only [Rv] at hx; obtain ⟨b, s, _, rfl⟩ := hx; cases h
   simp [Op.equalIn, run_underlying ht, Sc.val]
 · have := scv hx; subst this; simp only [Rv] at hy; obtain ⟨b, s, _, rfl, _⟩ := hy; cases h
   simp [Op.equalIn, run_underlying ht, Sc.val]
 · have := scv hy; subst this; simp only [Rv] at hx; obtain ⟨b, s, _, rfl, _⟩ := hx; cases h
   simp [Op.equalIn, run_underlying ht, Sc.val]
 · rename_i o f o' f'
   simp only [Rv] at hx hy
   obtain ⟨b, s, h1, rfl⟩ := hx
   obtain ⟨b', s', h2, rfl⟩ := hy
   by_cases ho : o = o'
   · subst ho
     rw [h1] at h2; cases h2
     rw [if_pos rfl] at h; cases h
     have e1 : ((⟨b, s + f, none⟩ : Addr) == ⟨b, s + f', none⟩) = (f == f') := by
      rw [Bool.eq_iff_iff]; simp
     simp [Op.equalIn, run_underlying ht, sizeOf, typeInfo, hi, hz, sameAddr, e1]
   · rw [if_neg ho] at h
     split at h
     · rename_i cs cs' g1 g2
       split at h
       · rename_i hc
         cases h
         obtain ⟨b1, s1, vals, p1, p2, p3, ⟨arr, te, p4, p4'⟩, _⟩ := hs.ok o _ g1
         obtain ⟨b2, s2, vals', q1, q2, q3, ⟨arr', te', q4, q4'⟩, _⟩ := hs.ok o' _ g2
         rw [h1] at p1; cases p1
         rw [h2] at q1; cases q1
         have hne : b ≠ b' := fun hb => ho (hs.sep o o' _ _ b g1 g2 (by simp [bl, h1]) (by simp [bl, h2, hb]))
         have sh1 : w.shape? b = some (te, arr.size) := by simp [World.shape?, p4]
         have sh2 : w.shape? b' = some (te', arr'.size) := by simp [World.shape?, q4]
         have f1 : ∀ j, w.frozen? ⟨b, j, none⟩ = false := fun j => by simp [World.frozen?, p4]
         have f2 : ∀ j, w.frozen? ⟨b', j, none⟩ = false := fun j => by simp [World.frozen?, q4]
         simp [Op.equalIn, run_underlying ht, sizeOf, typeInfo, hi, hz, sameAddr, hne, f1, f2, noView, viewAt, sh1, sh2, mayBeOne, stringish]
       · cases h
     · cases h
 · cases h
theorem eqFs_ok {d : Nat} (ih : ∀ (t : TypeId) (e : EqT), eqT P d t = some e → ∀ (k : Nat) (x y : V) (vx vy : Value) (r : Bool), Rv G w x vx → Rv G w y vy → aEqV σ e x y = some r → (Op.equalIn (k + d) t vx vy).run P w = .ok r w) (k : Nat)
  {xs ys : List V} {vxs vys : List Value} (hx : RvL G w xs vxs) (hy : RvL G w ys vys) :
  ∀ (fs : List Field) (qs : List (Nat × Option Nat × EqT)) (r : Bool),
   fs.mapM (fun f => if f.name = "_" then none else (tySize P f.type).bind fun n => (eqT P d f.type).map fun e => (f.offset, n, e)) = some qs → aEqFs σ qs xs ys = some r →
   (Op.eqFields (k + d) vxs.toArray vys.toArray fs).run P w = .ok r w
 | [], qs, r, hm, h => by
  simp at hm; subst hm; simp only [aEqFs] at h; cases h
  simp [Op.eqFields]
 | f :: fs, qs, r, hm, h => by
  simp only [List.mapM_cons, Option.bind_eq_bind, Option.bind_eq_some_iff, Option.pure_def, Option.some.injEq] at hm
  obtain ⟨q, h1, qs', h2, rfl⟩ := hm
  split at h1
  · cases h1
  · rename_i hname
    simp only [Option.bind_eq_some_iff, Option.map_eq_some_iff] at h1
    obtain ⟨n, h3, e, h4, rfl⟩ := h1
    simp only [aEqFs, Option.bind_eq_some_iff, Option.map_eq_some_iff] at h
    obtain ⟨a, g1, b, g2, r1, g3, s, g4, rfl⟩ := h
    obtain ⟨va, p1, p2⟩ := aPart_ok (P := P) (tySize_ok h3) hx g1
    obtain ⟨vb, q1, q2⟩ := aPart_ok (P := P) (tySize_ok h3) hy g2
    have h5 := ih f.type e h4 k a b va vb r1 p2 q2 g3
    have h6 := eqFs_ok ih k hx hy fs qs' s h2 g4
    simp only [Op.eqFields, ne_eq, hname, not_false_eq_true, if_true, Sem.run_bind, p1, q1, h5, Result.andThen_ok]
    cases r1 <;> simp [h6]
theorem forIn_all (f : Nat → Sem Bool) (g : Nat → Bool) : ∀ (l : List Nat), (∀ i, i ∈ l → (f i).run P w = .ok (g i) w) →
  (forIn l ((none, ()) : Option Bool × Unit) (fun i _ => do if (!(← f i)) = true then pure (ForInStep.done (some false, ())) else pure (ForInStep.yield (none, ()))) : Sem (Option Bool × Unit)).run P w =
    .ok (cond (l.all g) (none, ()) (some false, ())) w
 | [], _ => by simp
 | i :: l, h => by
  have h1 := h i (by simp)
  simp only [List.forIn_cons, Sem.run_bind, h1, Result.andThen_ok, List.all_cons]
  by_cases hg : g i = true
  · have := forIn_all f g l fun j hj => h j (by simp [hj])
    simpa [hg] using this
  · simp [hg]
theorem forIn_range (F : Nat → Option Bool × Unit → Sem (ForInStep (Option Bool × Unit))) (n : Nat) : (forIn [:n] ((none, ()) : Option Bool × Unit) F : Sem (Option Bool × Unit)) = forIn (List.range n) (none, ()) F := by
 rw [Std.Legacy.Range.forIn_eq_forIn_range']
 simp [Std.Legacy.Range.size, List.range_eq_range']
theorem nilness_ok {n : Sc} {f : V → Bool} {x y : V} {r : Bool} (h : aNilness n f x y = some r) :
  (x = .sc n ∧ y = .sc n ∧ r = true) ∨ (x = .sc n ∧ f y = true ∧ r = false) ∨ (y = .sc n ∧ f x = true ∧ r = false) := by
 unfold aNilness at h
 split at h
 · split at h
   · rename_i hc
     cases h
     exact Or.inl ⟨by rw [hc.1], by rw [hc.2], rfl⟩
   · split at h
     · rename_i hc
       cases h
       exact Or.inr (Or.inl ⟨by rw [hc.1], hc.2, rfl⟩)
     · split at h
       · rename_i hc
         cases h
         exact Or.inr (Or.inr ⟨by rw [hc.1], hc.2, rfl⟩)
       · cases h
 · split at h
   · rename_i hc
     cases h
     exact Or.inr (Or.inl ⟨by rw [hc.1], hc.2, rfl⟩)
   · cases h
 · split at h
   · rename_i hc
     cases h
     exact Or.inr (Or.inr ⟨by rw [hc.1], hc.2, rfl⟩)
   · cases h
 · cases h
theorem isSl_ok {x : V} {v : Value} (h : isSl x = true) (hx : Rv G w x v) : ∃ a n c, v = .slice (some a) n c := by
 unfold isSl at h
 split at h
 · simp only [Rv] at hx; obtain ⟨b, s, cap, _, rfl, _⟩ := hx; exact ⟨_, _, _, rfl⟩
 · simp only [Rv] at hx; obtain ⟨b, s, cap, _, rfl, _⟩ := hx; exact ⟨_, _, _, rfl⟩
 · have := scv hx; subst this; exact ⟨_, _, _, rfl⟩
 · cases h
theorem isMp_ok {x : V} {v : Value} (h : isMp x = true) (hx : Rv G w x v) : ∃ a, v = .map (some a) := by
 unfold isMp at h
 split at h
 · simp only [Rv] at hx; obtain ⟨b, s, _, rfl⟩ := hx; exact ⟨_, rfl⟩
 · cases h
theorem isFn_ok {x : V} {v : Value} (h : isFn x = true) (hx : Rv G w x v) : ∃ f a c, v = .func f a c := by
 unfold isFn at h
 split at h
 · simp only [Rv] at hx; obtain ⟨b, s, rfl, _⟩ := hx; exact ⟨_, _, _, rfl⟩
 · cases h
theorem eqV_ok (hs : Rs G σ w) : ∀ (d : Nat) (t : TypeId) (e : EqT), eqT P d t = some e → ∀ (k : Nat) (x y : V) (vx vy : Value) (r : Bool), Rv G w x vx → Rv G w y vy → aEqV σ e x y = some r →
  (Op.equalIn (k + d) t vx vy).run P w = .ok r w
 | 0, t, e, he, _, _, _, _, _, _, _, _, _ => by simp [eqT] at he
 | d + 1, t, e, he, k, x, y, vx, vy, r, hx, hy, h => by
  have ih := eqV_ok hs d
  rw [← Nat.add_assoc]
  unfold eqT at he
  split at he
  · rename_i kk ht
    cases he
    simp only [aEqV, aEqInt] at h
    split at h
    · split at h
      · rename_i hc
        obtain ⟨rfl, rfl⟩ := hc
        cases h
        have := scv hx; have := scv hy; subst_vars
        exact run_equalIn_int w (k + d) t _ _ _ _ ht
      · cases h
    · cases h
  · rename_i ht
    cases he
    simp only [aEqV, aEqBool] at h
    split at h
    · cases h
      have := scv hx; have := scv hy; subst_vars
      exact run_equalIn_bool' w (k + d) t _ _ ht
    · cases h
  · rename_i ht
    cases he
    simp only [aEqV, aEqStr] at h
    split at h
    · cases h
      obtain ⟨s, rfl, rfl⟩ := str_of hx
      obtain ⟨u, rfl, rfl⟩ := str_of hy
      rw [run_equalIn_string w (k + d) t _ _ ht, ByteArray.toList_eq, ByteArray.toList_eq, beq_dec]
    · cases h
  · rename_i q ht
    split at he
    · rename_i i hi
      split at he
      · rename_i hz
        cases he
        simp only [aEqV] at h
        exact ptrEq_ok ht hi hz hs hx hy h (k + d)
      · cases he
    · cases he
  · rename_i q ht
    cases he
    simp only [aEqV] at h
    rcases nilness_ok h with ⟨rfl, rfl, rfl⟩ | ⟨rfl, hf, rfl⟩ | ⟨rfl, hf, rfl⟩
    · have := scv hx; have := scv hy; subst_vars
      simp [Op.equalIn, run_underlying ht, Sc.val]
    · obtain ⟨a, n, c, rfl⟩ := isSl_ok hf hy
      have := scv hx; subst_vars
      simp [Op.equalIn, run_underlying ht, Sc.val]
    · obtain ⟨a, n, c, rfl⟩ := isSl_ok hf hx
      have := scv hy; subst_vars
      simp [Op.equalIn, run_underlying ht, Sc.val]
  · rename_i q1 q2 ht
    cases he
    simp only [aEqV] at h
    rcases nilness_ok h with ⟨rfl, rfl, rfl⟩ | ⟨rfl, hf, rfl⟩ | ⟨rfl, hf, rfl⟩
    · have := scv hx; have := scv hy; subst_vars
      simp [Op.equalIn, run_underlying ht, Sc.val]
    · obtain ⟨a, rfl⟩ := isMp_ok hf hy
      have := scv hx; subst_vars
      simp [Op.equalIn, run_underlying ht, Sc.val]
    · obtain ⟨a, rfl⟩ := isMp_ok hf hx
      have := scv hy; subst_vars
      simp [Op.equalIn, run_underlying ht, Sc.val]
  · rename_i q1 q2 q3 ht
    cases he
    simp only [aEqV] at h
    rcases nilness_ok h with ⟨rfl, rfl, rfl⟩ | ⟨rfl, hf, rfl⟩ | ⟨rfl, hf, rfl⟩
    · have := scv hx; have := scv hy; subst_vars
      simp [Op.equalIn, run_underlying ht, Sc.val]
    · obtain ⟨a, n, c, rfl⟩ := isFn_ok hf hy
      have := scv hx; subst_vars
      simp [Op.equalIn, run_underlying ht, Sc.val]
    · obtain ⟨a, n, c, rfl⟩ := isFn_ok hf hx
      have := scv hy; subst_vars
      simp [Op.equalIn, run_underlying ht, Sc.val]
  · rename_i fs ht
    split at he
    · cases he
    · rename_i hst
      rw [Option.map_eq_some_iff] at he
      obtain ⟨qs, hm, rfl⟩ := he
      simp only [aEqV] at h
      split at h
      · simp only [Rv] at hx hy
        obtain ⟨vxs, rfl, hx⟩ := hx
        obtain ⟨vys, rfl, hy⟩ := hy
        have hf : P.fieldsOf t = fs := by simp [Program.fieldsOf, ht]
        rw [run_equalIn_struct w (k + d) t _ _ (by rw [hf]; exact ht) (by simpa using hst), hf]
        exact eqFs_ok ih k hx hy fs.toList qs r hm h
      · cases h
  · rename_i len q ht
    split at he
    · rename_i i hi
      simp only [Option.bind_eq_some_iff, Option.map_eq_some_iff] at he
      obtain ⟨n, h3, e', h4, rfl⟩ := he
      simp only [aEqV] at h
      split at h
      · simp only [Rv] at hx hy
        obtain ⟨vxs, rfl, hx⟩ := hx
        obtain ⟨vys, rfl, hy⟩ := hy
        obtain ⟨g, g1, rfl⟩ := allO_all h
        have hsz : (sizeOf q).run P w = .ok i.size w := by simp [sizeOf, typeInfo, hi]
        have key : ∀ j, j ∈ List.range len → ((do let a ← part q vxs.toArray (j * i.size); let b ← part q vys.toArray (j * i.size); Op.equalIn (k + d) q a b) : Sem Bool).run P w = .ok (g j) w := by
         intro j hj
         have := g1 j (by simpa using hj)
         simp only [Option.bind_eq_some_iff] at this
         obtain ⟨a, a1, b, b1, b2⟩ := this
         obtain ⟨va, p1, p2⟩ := aPart_ok (P := P) (tySize_ok h3) hx a1
         obtain ⟨vb, q1, q2⟩ := aPart_ok (P := P) (tySize_ok h3) hy b1
         have h5 := ih q e' h4 k a b va vb _ p2 q2 b2
         simp only [Sem.run_bind, p1, q1, h5, Result.andThen_ok]
        have := forIn_all _ g (List.range len) key
        simp only [Op.equalIn, Sem.run_bind, run_underlying ht, hsz, Result.andThen_ok]
        rw [forIn_range]
        simp only [bind_assoc] at this
        rw [this]
        cases hall : (List.range len).all g <;> simp
      · cases h
    · cases he
  · cases he
end
end Go.Ab
