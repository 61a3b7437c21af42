/- Locals in registers: a region. -/
import Derived.Test.YtehdjkikcfeiaaaGreatAbN
namespace Go.Ab
set_option linter.unusedVariables false
set_option linter.unusedSimpArgs false
section
variable {L F : List Nat} {k : Nat} {ra ra' rb rb' : Env} {a b a' b' : St} {c d : CallF}
def SOK (c d : CallF) (L : List Nat) (os' : List AOper) (obs : Obs) (ra rb : Env) (lh : List Step) (s : Step) : Prop :=
 s.o.see = [] ∨ s.ran = false ∨
 (∃ r o cs, (r, s.o.see) ∈ obs ∧ inS L r = true ∧ ((∀ o' ∈ os', o'.dst ≠ some r) → ra r = .agg cs ∧ rb r = .ptr o 0) ∧ ∀ σ, σ.get o = some (.cells cs) → (s.o.op.run d s.ρ σ).map (·.1) = some s.v) ∨
 (∃ sh ∈ lh, sh.o.see = s.o.see ∧ sh.ran = s.ran ∧ sh.v = s.v ∧ ∀ x y, Sim x y → ∀ v, (sh.o.op.run c sh.ρ x).map (·.1) = some v → (s.o.op.run d s.ρ y).map (·.1) = some v)
structure Hd1 (c d : CallF) (L F : List Nat) (k : Nat) (o o' : AOper) (obs : Obs) (m' : List Ent) (ra : Env) (a : St) (rb : Env) (b : St) (v : V) (a1 : St) (ran : Bool) (u : V) (b1 : St) : Prop where
 one : One d o rb b u b1 ran
 lr : LR L F k (put ra o'.dst v) a1 (put rb o.dst u) b1
 e : E2 k a b a1 b1
 ent : EntOK L m' (put rb o.dst u)
 eff : isEff o' = isEff o
 dst : ∀ r, inS L r = true → o'.dst ≠ some r → o.dst ≠ some r
 sok : ∀ os' obs' lh, (∀ p ∈ obs, p ∈ obs') → ⟨o', ra, v, ran⟩ ∈ lh → o' ∈ os' → SOK c d L os' obs' ra rb lh ⟨o, rb, u, ran⟩
theorem gen_ok (hc : CS c d) (hLF : ∀ t, inS L t = true → inS F t = true) {m m' : List Ent} {o : AOper} {es : List AOper} {ob : Obs} (hg : genH F m o = some (es, m', ob)) (h : LR L F k ra a rb b) (hm : EntOK L m rb) :
  es = [o] ∧ ∀ v a1 ran, One c o ra a v a1 ran → ∃ u b1, Hd1 c d L F k o o ob m' ra a rb b v a1 ran u b1 := by
 unfold genH at hg
 cases hh : (o.op.tmps.all (fun t => !inS F t) && (cleanD F o.dst && cleanG F o.guard)) with
 | false => rw [hh, cond_false] at hg; cases hg
 | true =>
  rw [hh, cond_true] at hg
  cases hg
  simp only [Bool.and_eq_true, List.all_eq_true, Bool.not_eq_true'] at hh
  obtain ⟨h1, h2, h3⟩ := hh
  refine ⟨rfl, fun v a1 ran ho => ?_⟩
  have hw := wanted_clean h h3
  have hcg : ∀ x, o.op.run c ra x = o.op.run c rb x := fun x => aop_congr fun t ht => h.same t (h1 t ht)
  rcases ho with ⟨w1, w2, rfl⟩ | ⟨w1, rfl, rfl, rfl⟩
  · rw [hcg] at w2
    obtain ⟨b1, w3, w4⟩ := op_mono hc h.sim w2
    refine ⟨v, b1, .inl ⟨by rw [← hw]; exact w1, w3, rfl⟩, (h.step w4).put hLF h2 v, w4.less h.kle, hm.drop _ _, rfl, fun r _ hr => hr, fun os' obs' lh _ hl _ => ?_⟩
    refine .inr (.inr (.inr ⟨_, hl, rfl, rfl, rfl, fun x y hs v' hv => ?_⟩))
    simp only [Option.map_eq_some_iff] at hv ⊢
    obtain ⟨⟨p, q⟩, hv, rfl⟩ := hv
    rw [hcg] at hv
    obtain ⟨b2, w5, _⟩ := op_mono hc hs hv
    exact ⟨_, w5, rfl⟩
  · refine ⟨.undef, b, .inr ⟨by rw [← hw]; exact w1, rfl, rfl, rfl⟩, h.put hLF h2 _, E2.refl h.sim, hm.drop _ _, rfl, fun r _ hr => hr, fun os' obs' lh _ hl _ => .inr (.inl rfl)⟩
theorem boxL_ok (hLF : ∀ t, inS L t = true → inS F t = true) {m : List Ent} {x : AO} {dd : Nat} {g : Gd} (hd : inS L dd = true) (hx : cleanO F x = true) (hg : cleanG F g = true) (h : LR L F k ra a rb b) (hm : EntOK L m rb) {v : V} {a1 : St} {ran : Bool}
  (ho : One c ⟨some dd, .xop .reg [x], g, []⟩ ra a v a1 ran) : ∃ u b1, Hd1 c d L F k ⟨some dd, .box x, g, []⟩ ⟨some dd, .xop .reg [x], g, []⟩ [] (entDrop (some dd) m) ra a rb b v a1 ran u b1 := by
 have hw := wanted_clean h hg
 have hne : ∀ t, inS F t = false → t ≠ dd := fun t ht he => by rw [he, hLF dd hd] at ht; cases ht
 rcases ho with ⟨w1, w2, rfl⟩ | ⟨w1, rfl, rfl, rfl⟩
 · simp only [AOp.run, XOp.run, List.map_cons, List.map_nil] at w2
   rw [eval_clean h hx] at w2
   split at w2
   · rename_i hcell
     cases w2
     have hn := h.sim.n
     refine ⟨.ptr b.n 0, b.push (.cells (x.eval rb).cellsOf), .inl ⟨by rw [← hw]; exact w1, by simp only [AOp.run, aBox, hcell, if_true], rfl⟩, ?_, ?_, hm.drop _ _, rfl, fun r _ hr => hr, fun os' obs' lh _ _ _ => .inl rfl⟩
     · refine ⟨⟨by simp [hn], fun o y hy => ?_⟩, by simp; have := h.kle; omega, fun t ht => ?_, fun t ht cc hcc => ?_, fun t u cc ee o ht hu htu hcc hee hto => ?_⟩
       · rw [St.get_bump] at hy
         have := St.get_lt hy
         rw [St.get_push, if_neg (by omega)]
         exact h.sim.get o y hy
       · simp only [put, upd_other (hne t ht)]
         exact h.same t ht
       · by_cases he : t = dd
         · subst he
           simp only [put, upd_self] at hcc ⊢
           cases hcc
           refine ⟨b.n, rfl, by rw [St.get_push, if_pos rfl], ?_, by simp [hn], by have := h.kle; omega⟩
           rw [St.get_bump]
           exact St.get_n _ (by omega)
         · simp only [put, upd_other he] at hcc ⊢
           obtain ⟨o, h1, h2, h3, h4, h5⟩ := h.loc t ht cc hcc
           exact ⟨o, h1, by rw [St.get_push, if_neg (by omega)]; exact h2, by rw [St.get_bump]; exact h3, by simp; omega, h5⟩
       · by_cases he : t = dd
         · subst he
           have hut : u ≠ t := fun hq => htu hq.symm
           simp only [put, upd_self, upd_other hut] at hcc hee hto ⊢
           obtain ⟨o2, h1, h2, h3, h4, h5⟩ := h.loc u hu ee hee
           rw [h1]
           cases hto
           intro hq
           cases hq
           omega
         · by_cases he2 : u = dd
           · subst he2
             simp only [put, upd_self, upd_other he] at hcc hee hto ⊢
             obtain ⟨o2, h1, h2, h3, h4, h5⟩ := h.loc t ht cc hcc
             rw [h1] at hto
             cases hto
             intro hq
             cases hq
             omega
           · simp only [put, upd_other he, upd_other he2] at hcc hee hto ⊢
             exact h.inj t u cc ee o ht hu htu hcc hee hto
     · refine ⟨⟨by simp [hn], fun o y hy => ?_⟩, by simp, fun o ho hon => ?_⟩
       · rw [St.get_bump] at hy
         have := St.get_lt hy
         rw [St.get_push, if_neg (by omega)]
         exact h.sim.get o y hy
       · have := h.kle
         rw [St.get_bump, St.get_push, if_neg (by omega)]
         exact ⟨hon, rfl⟩
   · cases w2
 · refine ⟨.undef, b, .inr ⟨by rw [← hw]; exact w1, rfl, rfl, rfl⟩, ?_, E2.refl h.sim, hm.drop _ _, rfl, fun r _ hr => hr, fun os' obs' lh _ _ _ => .inl rfl⟩
   refine ⟨h.sim, h.kle, fun t ht => ?_, fun t ht cc hcc => ?_, fun t u cc ee o ht hu htu hcc hee hto => ?_⟩
   · simp only [put, upd_other (hne t ht)]
     exact h.same t ht
   · by_cases he : t = dd
     · subst he
       simp only [put, upd_self] at hcc
       cases hcc
     · simp only [put, upd_other he] at hcc ⊢
       exact h.loc t ht cc hcc
   · by_cases he : t = dd
     · subst he
       simp only [put, upd_self] at hcc
       cases hcc
     · by_cases he2 : u = dd
       · subst he2
         simp only [put, upd_self] at hee
         cases hee
       · simp only [put, upd_other he, upd_other he2] at hcc hee hto ⊢
         exact h.inj t u cc ee o ht hu htu hcc hee hto
theorem loadL_ok (hLF : ∀ t, inS L t = true → inS F t = true) {m : List Ent} {n : Option Nat} {t r off : Nat} {dst : Option Nat} {g : Gd} {see : List Nat} (hl : locOf L m g t = some (r, off)) (hd : cleanD F dst = true) (hg : cleanG F g = true) (h : LR L F k ra a rb b) (hm : EntOK L m rb) {v : V} {a1 : St} {ran : Bool}
  (ho : One c ⟨dst, .part off n (.t r), g, []⟩ ra a v a1 ran) : ∃ u b1, Hd1 c d L F k ⟨dst, .load n (.t t), g, see⟩ ⟨dst, .part off n (.t r), g, []⟩ [(r, see)] (entDrop dst m) ra a rb b v a1 ran u b1 := by
 have hw := wanted_clean h hg
 obtain ⟨hr, hat⟩ := locOf_ok hm hl
 rcases ho with ⟨w1, w2, rfl⟩ | ⟨w1, rfl, rfl, rfl⟩
 · simp only [AOp.run, AO.eval, Option.map_eq_some_iff, Prod.mk.injEq] at w2
   obtain ⟨u, w2, rfl, rfl⟩ := w2
   unfold aPartOf at w2
   split at w2
   · rename_i cs hcs
     obtain ⟨o, h1, h2, h3, h4, h5⟩ := h.loc r hr cs hcs
     have hp := hat (by rw [← hw]; exact w1) o h1
     have hrun : ∀ σ : St, σ.get o = some (.cells cs) → (AOp.load n (.t t)).run d rb σ = some (u, σ) := by
      intro σ hσ
      simp only [AOp.run, AO.eval, hp, aLoad, hσ, w2, Option.map_some]
     refine ⟨u, b, .inl ⟨by rw [← hw]; exact w1, hrun b h2, rfl⟩, h.put hLF hd _, E2.refl h.sim, hm.drop _ _, rfl, fun r _ hr => hr, fun os' obs' lh hobs _ _ => ?_⟩
     exact .inr (.inr (.inl ⟨r, o, cs, hobs _ (by simp), hr, fun _ => ⟨hcs, h1⟩, fun σ hσ => by
      show ((AOp.load n (.t t)).run d rb σ).map (·.1) = some u
      rw [hrun σ hσ]; rfl⟩))
   · cases w2
 · exact ⟨.undef, b, .inr ⟨by rw [← hw]; exact w1, rfl, rfl, rfl⟩, h.put hLF hd _, E2.refl h.sim, hm.drop _ _, rfl, fun r _ hr => hr, fun os' obs' lh _ _ _ => .inr (.inl rfl)⟩
theorem storeL_ok (hLF : ∀ t, inS L t = true → inS F t = true) {m : List Ent} {n : Nat} {t r off : Nat} {x : AO} (hl : locOf L m none t = some (r, off)) (hx : cleanO F x = true) (h : LR L F k ra a rb b) (hm : EntOK L m rb) {v : V} {a1 : St} {ran : Bool}
  (ho : One c ⟨some r, .xop (.rput off n) [.t r, x], none, []⟩ ra a v a1 ran) : ∃ u b1, Hd1 c d L F k ⟨none, .store n (.t t) x, none, []⟩ ⟨some r, .xop (.rput off n) [.t r, x], none, []⟩ [] m ra a rb b v a1 ran u b1 := by
 obtain ⟨hr, hat⟩ := locOf_ok hm hl
 have hne : ∀ t, inS F t = false → t ≠ r := fun t ht he => by rw [he, hLF r hr] at ht; cases ht
 rcases ho with ⟨w1, w2, rfl⟩ | ⟨w1, rfl, rfl, rfl⟩
 · simp only [AOp.run, XOp.run, List.map_cons, List.map_nil] at w2
   rw [eval_clean h hx] at w2
   split at w2
   · rename_i cs hcs
     simp only [AO.eval] at hcs
     split at w2
     · rename_i hcond
       cases w2
       obtain ⟨o, h1, h2, h3, h4, h5⟩ := h.loc r hr cs hcs
       have hp := hat rfl o h1
       have hob := St.get_lt h2
       refine ⟨.undef, b.put o (some (.cells (splice cs off (x.eval rb).cellsOf))), .inl ⟨rfl, ?_, rfl⟩, ?_, ?_, hm, rfl, fun r' _ _ => by simp, fun os' obs' lh _ _ _ => .inl rfl⟩
       · show (aStore b n (rb t) (x.eval rb)).map _ = _
         rw [hp]
         simp only [aStore, h2]
         rw [if_pos hcond]
         rfl
       · refine ⟨⟨by simp [h.sim.n], fun p y hy => ?_⟩, h.kle, fun t ht => ?_, fun t' ht cc hcc => ?_, fun t' u cc ee p ht hu htu hcc hee hto => ?_⟩
         · have : p ≠ o := by rintro rfl; rw [h3] at hy; cases hy
           rw [St.get_put _ _ _ _ hob, if_neg this]
           exact h.sim.get p y hy
         · simp only [put, upd_other (hne t ht)]
           exact h.same t ht
         · by_cases he : t' = r
           · subst he
             simp only [put, upd_self] at hcc ⊢
             cases hcc
             exact ⟨o, h1, by rw [St.get_put _ _ _ _ hob, if_pos rfl], h3, h4, h5⟩
           · simp only [put, upd_other he] at hcc ⊢
             obtain ⟨p, q1, q2, q3, q4, q5⟩ := h.loc t' ht cc hcc
             have hpo : p ≠ o := fun hq => h.inj t' r cc cs o ht hr he hcc hcs (by rw [q1, hq]) h1
             exact ⟨p, q1, by rw [St.get_put _ _ _ _ hob, if_neg hpo]; exact q2, q3, q4, q5⟩
         · have key : ∀ w cw, put ra (some r) (.agg (splice cs off (x.eval rb).cellsOf)) w = .agg cw → inS L w = true → ∃ cw', ra w = .agg cw' := by
            intro w cw hw _
            by_cases he : w = r
            · subst he; exact ⟨cs, hcs⟩
            · simp only [put, upd_other he] at hw; exact ⟨cw, hw⟩
           obtain ⟨c1, k1⟩ := key t' cc hcc ht
           obtain ⟨c2, k2⟩ := key u ee hee hu
           exact h.inj t' u c1 c2 p ht hu htu k1 k2 hto
       · refine ⟨⟨by simp [h.sim.n], fun p y hy => ?_⟩, Nat.le_refl _, fun p hp hn => ⟨hn, ?_⟩⟩
         · have : p ≠ o := by rintro rfl; rw [h3] at hy; cases hy
           rw [St.get_put _ _ _ _ hob, if_neg this]
           exact h.sim.get p y hy
         · rw [St.get_put _ _ _ _ hob, if_neg (by omega)]
     · cases w2
   · cases w2
 · cases w1
theorem place_ok' {m : List Ent} {off t r off0 dd : Nat} {g : Gd} (hl : locOf L m g t = some (r, off0)) (hd : inS F dd = true) (hdL : inS L dd = false) (hg : cleanG F g = true) (h : LR L F k ra a rb b) (hm : EntOK L m rb)
  (hagg : wanted ra g = true → ∃ cs, ra r = .agg cs) : ∃ u, One d ⟨some dd, .place off (.t t), g, []⟩ rb b u b (wanted ra g) ∧ LR L F k ra a (put rb (some dd) u) b ∧ EntOK L (⟨dd, r, off0 + off, g⟩ :: entDrop (some dd) m) (put rb (some dd) u) := by
 have hw := wanted_clean h hg
 obtain ⟨hr, hat⟩ := locOf_ok hm hl
 have lr : ∀ u, LR L F k ra a (put rb (some dd) u) b := by
  intro u
  have hL : ∀ t, inS L t = true → put rb (some dd) u t = rb t := fun t ht => putE_ne (by rintro he; cases he; rw [hdL] at ht; cases ht)
  refine ⟨h.sim, h.kle, fun t ht => ?_, fun t ht cc hcc => ?_, fun t u' cc ee o ht hu htu hcc hee hto => ?_⟩
  · have : t ≠ dd := by rintro rfl; rw [hd] at ht; cases ht
    simp only [put, upd_other this]
    exact h.same t ht
  · rw [hL t ht]; exact h.loc t ht cc hcc
  · rw [hL t ht] at hto
    rw [hL u' hu]
    exact h.inj t u' cc ee o ht hu htu hcc hee hto
 have hrd : r ≠ dd := by rintro rfl; rw [hdL] at hr; cases hr
 have ent : ∀ u, (wanted rb g = true → ∀ o, rb r = .ptr o 0 → u = .ptr o (off0 + off)) → EntOK L (⟨dd, r, off0 + off, g⟩ :: entDrop (some dd) m) (put rb (some dd) u) := by
  intro u hu
  have h0 := hm.drop (some dd) u
  refine ⟨fun e he => ?_, fun e he hwe o ho => ?_⟩
  · rcases List.mem_cons.1 he with rfl | he
    · exact hr
    · exact h0.root e he
  · rcases List.mem_cons.1 he with rfl | he
    · simp only [put, upd_self, upd_other hrd] at ho ⊢
      refine hu ?_ o ho
      rw [← hwe]
      cases g with
      | none => rfl
      | some p =>
       obtain ⟨t', c'⟩ := p
       have : t' ≠ dd := by
        rintro rfl
        simp only [cleanG, hd] at hg
        cases hg
       simp only [wanted, put, upd_other this]
    · exact h0.at_ e he hwe o ho
 cases hwa : wanted ra g with
 | true =>
  obtain ⟨cs, hcs⟩ := hagg hwa
  obtain ⟨o, h1, h2, h3, h4, h5⟩ := h.loc r hr cs hcs
  have hp := hat (by rw [← hw]; exact hwa) o h1
  refine ⟨.ptr o (off0 + off), .inl ⟨by rw [← hw]; exact hwa, by simp only [AOp.run, AO.eval, hp, aPlace, Option.map_some], rfl⟩, lr _, ent _ fun _ o' ho' => ?_⟩
  rw [h1] at ho'
  cases ho'
  rfl
 | false =>
  refine ⟨.undef, .inr ⟨by rw [← hw]; exact hwa, rfl, rfl, rfl⟩, lr _, ent _ fun hq => ?_⟩
  rw [← hw, hwa] at hq
  cases hq
theorem agg_next {r : Nat} (hr : inS L r = true) : ∀ {os : List AOper} {m : List Ent} {dd : Nat} {off : Nat} {g : Gd} {os' : List AOper} {obs : Obs} {l : List Step} {ss : List St} {res : Env × St}, inS L dd = false → usesNext dd g os = true → tOps L F (⟨dd, r, off, g⟩ :: m) os = some (os', obs) →
  traceOps c os' ra a = some (l, ss, res) → wanted ra g = true → ∃ cs, ra r = .agg cs
 | [], m, dd, off, g, os', obs, l, ss, res, hdL, hu, ht, htr, hw => by cases hu
 | o :: os, m, dd, off, g, os', obs, l, ss, res, hdL, hu, ht, htr, hw => by
  simp only [usesNext, Bool.and_eq_true] at hu
  obtain ⟨hu1, hu2⟩ := hu
  have hge := gdEq_eq hu2
  have hloc : locOf L (⟨dd, r, off, g⟩ :: m) o.guard dd = some (r, off) := by
   unfold locOf
   rw [hdL, cond_false]
   simp only [entOf, Nat.beq_refl, Bool.true_and]
   rw [← hge, gdEq_refl]
   simp
  simp only [tOps, Option.bind_eq_some_iff, Option.map_eq_some_iff] at ht
  obtain ⟨⟨es, m', ob⟩, ht1, ⟨os2, obs2⟩, ht2, ht3⟩ := ht
  cases ht3
  obtain ⟨dst, op, gg, see⟩ := o
  dsimp only at hu1 hge hloc ht1
  subst hge
  split at hu1
  · rename_i n t
    have := Nat.eq_of_beq_eq_true hu1
    subst this
    simp only [tHead, hloc] at ht1
    cases hcnd : (cleanD F dst && cleanG F g) with
    | false => rw [hcnd, cond_false] at ht1; cases ht1
    | true =>
     rw [hcnd, cond_true] at ht1
     cases ht1
     obtain ⟨v, σ1, ran, l', ss', hone, _⟩ := trace_inv htr
     rcases hone with ⟨_, h2, _⟩ | ⟨h1, _⟩
     · simp only [AOp.run, AO.eval, Option.map_eq_some_iff] at h2
       obtain ⟨u, h2, _⟩ := h2
       unfold aPartOf at h2
       split at h2
       · rename_i cs hcs; exact ⟨cs, hcs⟩
       · cases h2
     · dsimp only at h1; rw [hw] at h1; cases h1
  · rename_i n t x
    have := Nat.eq_of_beq_eq_true hu1
    subst this
    simp only [tHead, hloc] at ht1
    cases hcnd : (dst.isNone && (Option.isNone g && (see.isEmpty && cleanO F x))) with
    | false => rw [hcnd, cond_false] at ht1; cases ht1
    | true =>
     rw [hcnd, cond_true] at ht1
     cases ht1
     obtain ⟨v, σ1, ran, l', ss', hone, _⟩ := trace_inv htr
     rcases hone with ⟨_, h2, _⟩ | ⟨h1, _⟩
     · simp only [AOp.run, XOp.run, List.map_cons, List.map_nil, AO.eval] at h2
       split at h2
       · rename_i cs hcs; exact ⟨cs, hcs⟩
       · cases h2
     · cases h1
  · rename_i off1 t
    have := Nat.eq_of_beq_eq_true hu1
    subst this
    simp only [tHead, hloc] at ht1
    cases dst with
    | none => cases ht1
    | some d2 =>
     dsimp only at ht1
     cases hcnd : (inS F d2 && (!(inS L d2) && (cleanG F g && see.isEmpty))) with
     | false => rw [hcnd, cond_false] at ht1; cases ht1
     | true =>
      rw [hcnd, cond_true] at ht1
      cases hun : usesNext d2 g os with
      | true =>
       rw [hun, cond_true] at ht1
       cases ht1
       simp only [Bool.and_eq_true, Bool.not_eq_true'] at hcnd
       exact agg_next hr hcnd.2.1 hun ht2 (by simpa using htr) hw
      | false =>
       rw [hun, cond_false] at ht1
       cases ht1
       obtain ⟨v, σ1, ran, l', ss', hone, _⟩ := trace_inv htr
       rcases hone with ⟨_, h2, _⟩ | ⟨h1, _⟩
       · simp only [AOp.run, AO.eval, Option.map_eq_some_iff] at h2
         obtain ⟨u, h2, _⟩ := h2
         unfold aPartOf at h2
         split at h2
         · rename_i cs hcs; exact ⟨cs, hcs⟩
         · cases h2
       · dsimp only at h1; rw [hw] at h1; cases h1
  · cases hu1
end
end Go.Ab
