/- A region that draws its order does what it does in the order of the text. -/
import Derived.Test.YtehdjkikcfeiaaaGreatAbG
namespace Go.Ab
open Go.RowKit
section
variable {P : Program} {mu : TypeId → Bool} {call : CallF} {n : Nat} {ops : Array Oper} {aos : List AOper} {ρ ρ' : Env} {σ σ' : St} {G0 : Gh} {w0 : World} {a0 : Act} {steps : List Step} {ss : List St}
 {Q : Exit → Act → World → Prop}
theorem wanted_same {o : Oper} {a a1 : Act} (h : ∀ t ∈ o.looksAt ops, a1.tmps[t]? = a.tmps[t]?) : Region.wanted o (yielded ops a1.tmps) = Region.wanted o (yielded ops a.tmps) := by
 unfold Region.wanted
 cases hg : o.guard with
 | none => rfl
 | some gw =>
  obtain ⟨g, want⟩ := gw
  have hy : yielded ops a1.tmps g = yielded ops a.tmps g := by
   unfold yielded
   cases ht : (ops[g]?).bind (·.dst) with
   | none => rfl
   | some t => simp [h t (by simp [Oper.looksAt, hg, ht])]
  simp only [hy]
theorem execOp_same {o : Oper} {a a1 : Act} (hs : ∀ cs b, o.op ≠ .select cs b) (h : ∀ t ∈ o.looksAt ops, a1.tmps[t]? = a.tmps[t]?) : execOp a1.eval o = execOp a.eval o :=
 execOp_congr o hs fun x hx => by
  cases x with
  | tmp t =>
   have := h t (List.mem_append_left _ (List.mem_filterMap.2 ⟨.tmp t, by simpa using hx, rfl⟩))
   simp only [Act.eval]
   rw [Array.getD_eq_getD_getElem?, Array.getD_eq_getD_getElem?, this]
  | _ => rfl
theorem Inv.done (T : TraceOk call aos ρ σ steps ss ρ' σ') (hK : After G0 w0 σ' ρ' n a0 (Q .normal)) {listed : Array Bool} {c : Nat} {pb : Nat → Option Nat} {G : Gh} {a : Act} {w : World}
  (h : Inv ops aos ρ G0 w0 a0 n steps ss listed c pb G a w) (hmax : ∀ e, Eff aos e → effB aos e = c → ¬ Lst listed e) (hall : ∀ i, i < aos.length → Lst listed i) (F : DrawF ops aos (bitOf (preOf ops))) : Q .normal a w := by
 have hc : c = effB aos aos.length := by
  rcases Nat.lt_or_ge c (effB aos aos.length) with hlt | hge
  · have hl : c < (effs aos).length := by rw [effs_len]; exact hlt
    obtain ⟨h1, h2⟩ := effs_get (List.getElem?_eq_getElem hl)
    exact absurd (hall _ h1.lt) (hmax _ h1 h2)
  · have := h.cE; omega
 have hpb : ∀ i b, pb i ≠ some b := by
  intro i b hb
  obtain ⟨_, k2, ⟨⟨u, z, arr, t, d, e1, e2, e3, _⟩, _, _, _⟩⟩ := h.pend i b hb
  have hE : Eff aos i := ⟨u.o, T.op i u e1, by rw [e3]; rfl⟩
  have := effB_lt hE hE.lt
  omega
 obtain ⟨s, hs, hrs⟩ := h.st
 rw [hc, T.last] at hs; cases hs
 have hprot : G.prot = G0.prot := by
  funext b
  apply propext
  constructor
  · intro hb
    rcases h.prot b hb with hb | ⟨i, hi⟩
    · exact hb
    · exact absurd hi (hpb i b)
  · exact h.sub b
 have hG : G.withProt G0.prot = G := by rw [← hprot]; rfl
 have hext : Ext G0 w0 G w := by have := h.ext; rw [hG] at this; exact this
 refine hK G w a hrs hext ?_ h.tsz h.dfs
 intro t
 obtain ⟨k1, k2⟩ := h.vals t fun i b s hb _ => absurd hb (hpb i b)
 by_cases hex : ∃ (i : Nat) (s : Step), steps[i]? = some s ∧ s.o.dst = some t
 · obtain ⟨i, s, h1, h2⟩ := hex
   have hi : i < aos.length := by have := (List.getElem?_eq_some_iff.1 h1).1; rw [T.len] at this; exact this
   rw [T.endv t i s h1 h2 fun k o hk ho hd => F.f4 k i o s.o t ho (T.op i s h1) (by omega) h2 hd]
   exact k1 i s h1 h2 (hall i hi)
 · have hno : ∀ (i : Nat) (s : Step), steps[i]? = some s → s.o.dst ≠ some t := fun i s h1 h2 => hex ⟨i, s, h1, h2⟩
   rw [T.end_ t fun j o ho hd => by
    have hj : j < steps.length := by rw [T.len]; exact (List.getElem?_eq_some_iff.1 ho).1
    have h1 := T.op j steps[j] (List.getElem?_eq_getElem hj)
    rw [ho] at h1; cases h1
    exact hno j _ (List.getElem?_eq_getElem hj) hd]
   exact k2 fun i s h1 h2 => absurd h2 (hno i s h1)
theorem ready_nil {listed : Array Bool} (hz : listed.size = ops.size) (F : DrawF ops aos (bitOf (preOf ops))) (C : CompF P mu n ops aos) (h : Region.ready .any ops listed = []) : ∀ i, i < aos.length → Lst listed i := by
 intro i
 induction i using Nat.strongRecOn with
 | ind i ih =>
  intro hi
  rw [C.len] at hi
  cases hl : listed.getD i false with
  | true => exact hl
  | false =>
   have : i ∈ Region.ready .any ops listed := by
    rw [mem_ready]
    refine ⟨?_, ops[i], Array.getElem?_eq_getElem hi, fun e he hb => ?_⟩
    · have hi' : i < listed.size := by rw [hz]; exact hi
      simp [hi'] at hl ⊢; exact hl
    · have := F.f1 i _ (Array.getElem?_eq_getElem hi) e he hb
      exact ih e.on this.1 (by rw [C.len]; omega)
   rw [h] at this; cases this
theorem Inv.looks (F : DrawF ops aos (bitOf (preOf ops))) (T : TraceOk call aos ρ σ steps ss ρ' σ') {listed : Array Bool} {c : Nat} {pb : Nat → Option Nat} {G : Gh} {a : Act} {w : World}
  (h : Inv ops aos ρ G0 w0 a0 n steps ss listed c pb G a w) (hmax : ∀ e, Eff aos e → effB aos e = c → ¬ Lst listed e) {i : Nat} {s : Step} {o : Oper} (hs : steps[i]? = some s) (ho : ops[i]? = some o)
  (hi : ¬ Lst listed i) (hpre : ∀ j, j < aos.length → bitOf (preOf ops) i j = true → Lst listed j) (t : Nat) (ht : t ∈ o.looksAt ops) : Rv G w (s.ρ t) (a.tmps.getD t undef) := by
 have hlt : i < aos.length := by have := (List.getElem?_eq_some_iff.1 hs).1; rw [T.len] at this; exact this
 have hnp : ∀ j b u, pb j = some b → steps[j]? = some u → u.o.dst ≠ some t := by
  intro j b u hj hu hd
  obtain ⟨k1, k2, ⟨⟨u', z, arr, t', d, e1, e2, e3, e4, _⟩, _, _, _⟩⟩ := h.pend j b hj
  rw [hu] at e1; cases e1
  have hE : Eff aos j := ⟨u.o, T.op j u hu, by rw [e3]; rfl⟩
  have hji : i ≠ j := fun e => hi (e ▸ k1)
  obtain ⟨_, h7⟩ := F.f7 j u.o (T.op j u hu) (by rw [e3]; rfl)
  have hlt2 := effB_lt hE hE.lt
  have hl : c < (effs aos).length := by rw [effs_len]; omega
  obtain ⟨h1, h2⟩ := effs_get (List.getElem?_eq_getElem hl)
  refine hmax _ h1 h2 (hpre _ h1.lt (h7 o i t ho hji ht hd _ h1 ?_))
  rcases Nat.lt_or_ge j (effs aos)[c] with hh | hh
  · have := effB_lt hE hh; omega
  · exact hh
 obtain ⟨k1, k2⟩ := h.vals t hnp
 have wr : ∀ (k : Nat) (q : AOper), aos[k]? = some q → ∃ u, steps[k]? = some u ∧ u.o = q := by
  intro k q hq
  have hj : k < steps.length := by rw [T.len]; exact (List.getElem?_eq_some_iff.1 hq).1
  have h1 := T.op k steps[k] (List.getElem?_eq_getElem hj)
  rw [hq] at h1; cases h1
  exact ⟨_, List.getElem?_eq_getElem hj, rfl⟩
 by_cases hex : ∃ (j : Nat) (u : Step), steps[j]? = some u ∧ u.o.dst = some t
 · obtain ⟨j, u, hu, hd⟩ := hex
   have uniq : ∀ k q, aos[k]? = some q → q.dst = some t → k = j := by
    intro k q hq hqd
    by_cases hk : k = j
    · exact hk
    · exact absurd hqd (F.f4 k j q u.o t hq (T.op j u hu) hk hd)
   have notL : ¬ Lst listed j → Rv G w (ρ t) (a.tmps.getD t undef) := fun hnl => k2 fun k q hq hqd => by
    rw [uniq k q.o (T.op k q hq) hqd]; exact hnl
   by_cases hji : j = i
   · subst hji
     rw [T.env j s hs t fun k q hk hq hqd => by have := uniq k q hq hqd; omega]
     exact notL hi
   · rcases F.f6 i j o u.o t ho (T.op j u hu) (Ne.symm hji) ht hd with hp | hp
     · have hjl : j < aos.length := (List.getElem?_eq_some_iff.1 (T.op j u hu)).1
       obtain ⟨hlt', _⟩ := F.f2 i j hlt hjl hp
       rw [T.envv i s hs t j u hlt' hu hd fun k q hk1 hk2 hq hqd => by have := uniq k q hq hqd; omega]
       exact k1 j u hu hd (hpre j hjl hp)
     · have hjl : j < aos.length := (List.getElem?_eq_some_iff.1 (T.op j u hu)).1
       obtain ⟨hlt', _⟩ := F.f2 j i hjl hlt hp
       rw [T.env i s hs t fun k q hk hq hqd => by have := uniq k q hq hqd; omega]
       exact notL fun hl => hi (h.cl j i hlt hl hp)
 · rw [T.env i s hs t fun k q hk hq hqd => by
    obtain ⟨u, hu, rfl⟩ := wr k q hq
    exact hex ⟨k, u, hu, hqd⟩]
   exact k2 fun k u hu hd => absurd ⟨k, u, hu, hd⟩ hex
theorem count_set {listed : Array Bool} {i f : Nat} (hi : i < listed.size) (hf : listed.getD i true = false) (h : listed.toList.count false ≤ f + 1) : (listed.setIfInBounds i true).toList.count false ≤ f := by
 have hi' : i < listed.toList.length := by simpa using hi
 rw [Array.toList_setIfInBounds, List.count_set hi']
 have : listed.toList[i] = false := by simp [hi] at hf; simpa using hf
 have e1 : (listed.toList[i] == false) = true := by rw [this]; rfl
 rw [if_pos e1, if_neg (by decide)]; omega
theorem any_ok {I : Gh → World → Prop} (hg : Good P I call) (hI0 : I G0 w0) {fr : Option Nat} (F : DrawF ops aos (bitOf (preOf ops))) (C : CompF P mu n ops aos) (T : TraceOk call aos ρ σ steps ss ρ' σ') (hal : steps.all (Step.alike call ss) = true) (hK : After G0 w0 σ' ρ' n a0 (Q .normal)) :
  ∀ (fuel : Nat) (listed : Array Bool) (c : Nat) (pb : Nat → Option Nat) (G : Gh) (a : Act) (w : World), Inv ops aos ρ G0 w0 a0 n steps ss listed c pb G a w → (∀ e, Eff aos e → effB aos e = c → ¬ Lst listed e) →
   listed.toList.count false ≤ fuel → wpAnyIn (Fr fr) 0 P .any ops Q fuel listed a w := by
 intro fuel
 induction fuel with
 | zero =>
  intro listed c pb G a w h hmax hcnt
  have hr : Region.ready .any ops listed = [] := by
   cases hr : Region.ready .any ops listed with
   | nil => rfl
   | cons j l =>
    exfalso
    have hj : j ∈ Region.ready .any ops listed := by rw [hr]; simp
    rw [mem_ready] at hj
    obtain ⟨hj, o, ho, _⟩ := hj
    have hjs : j < listed.size := by rw [h.size]; exact (Array.getElem?_eq_some_iff.1 ho).1
    have : false ∈ listed.toList := by
     simp [hjs] at hj
     have := Array.getElem_mem hjs
     rw [hj] at this; simpa using this
    have := List.count_pos_iff.2 this
    omega
  exact ⟨hr, h.done T hK hmax (ready_nil h.size F C hr) F⟩
 | succ fuel ih =>
  intro listed c pb G a w h hmax hcnt
  refine ⟨fun hr => h.done T hK hmax (ready_nil h.size F C hr) F, fun i hi => ?_⟩
  rw [mem_ready] at hi
  obtain ⟨hnl, o, ho, hrd⟩ := hi
  have hiz : i < ops.size := (Array.getElem?_eq_some_iff.1 ho).1
  have hil : i < aos.length := by rw [C.len]; exact hiz
  have hils : i < listed.size := by rw [h.size]; exact hiz
  have his : i < steps.length := by rw [T.len]; exact hil
  have hs : steps[i]? = some steps[i] := List.getElem?_eq_getElem his
  generalize steps[i] = s at hs
  have hao := T.op i s hs
  obtain ⟨o', ho', hd, hco, hgd, hdst⟩ := C.get i s.o hao
  rw [ho] at ho'; cases ho'
  have hi : ¬ Lst listed i := by unfold Lst; simp [hils] at hnl ⊢; exact hnl
  have hpre : ∀ j, j < aos.length → bitOf (preOf ops) i j = true → Lst listed j := by
   intro j hj hp
   obtain ⟨_, o2, ho2, e, he, hb, hon⟩ := F.f2 i j hil hj hp
   rw [ho] at ho2; cases ho2
   have hle := hrd e he hb
   rcases hon with hon | hon
   · rw [← hon]; exact hle
   · exact h.cl e.on j hj hle hon
  have hlk := h.looks F T hmax hs ho hi hpre
  obtain ⟨hran, s0, hs0, hr1, hr2⟩ := T.at_ i s hs
  obtain ⟨sc, hsc, hrs⟩ := h.st
  have hI : I G w := hg.st hI0 h.ext
  -- slots that it does not look at do not matter
  let a1 : Act := { a with tmps := a.tmps.mapIdx fun t v => if t ∈ o.looksAt ops then v else undef }
  let ρ1 : Env := fun t => if t ∈ o.looksAt ops then s.ρ t else V.undef
  have ha1 : ∀ t ∈ o.looksAt ops, a1.tmps[t]? = a.tmps[t]? := by
   intro t ht
   simp only [a1, Array.getElem?_mapIdx, ht, if_true]
   cases a.tmps[t]? <;> rfl
  have hr : RE G w ρ1 a1.tmps := by
   intro t
   by_cases ht : t ∈ o.looksAt ops
   · have : a1.tmps.getD t undef = a.tmps.getD t undef := by rw [Array.getD_eq_getD_getElem?, Array.getD_eq_getD_getElem?, ha1 t ht]
     rw [this]
     simp only [ρ1, ht, if_true]; exact hlk t ht
   · have : a1.tmps.getD t undef = undef := by
      simp only [a1, Array.getD_eq_getD_getElem?, Array.getElem?_mapIdx, ht, if_false]
      cases a.tmps[t]? <;> rfl
     rw [this]
     simp only [ρ1, ht, if_false]; exact Rv.undef
  obtain ⟨f5, f5g⟩ := F.f5 i s.o o hao ho
  have hrun : ∀ σ, s.o.op.run call ρ1 σ = s.o.op.run call s.ρ σ := fun σ => aop_congr fun t ht => by simp only [ρ1, f5 t ht, if_true]
  have hwant : Region.wanted o (yielded ops a.tmps) = s.ran := by
   rw [← wanted_same ha1, ← wanted_ok hr hgd, hran]
   cases hgg : s.o.guard with
   | none => rfl
   | some tb =>
    obtain ⟨t, b⟩ := tb
    simp only [wanted, ρ1, f5g t b hgg, if_true]
  have hexec : execOp a.eval o = execOp a1.eval o := (execOp_same (fun cs b => F.f9 i o cs b ho) ha1).symm
  have hcnt' : (listed.setIfInBounds i true).toList.count false ≤ fuel := count_set hils hnl hcnt
  -- behind it
  have fin : ∀ (c1 : Nat) (pb1 : Nat → Option Nat) (G1 : Gh) (a2 : Act) (w1 : World), Inv ops aos ρ G0 w0 a0 n steps ss (listed.setIfInBounds i true) c1 pb1 G1 a2 w1 → wpAnyIn (Fr fr) 0 P .any ops Q fuel (listed.setIfInBounds i true) a2 w1 := by
   intro c1 pb1 G1 a2 w1 hinv
   obtain ⟨c2, pb2, G2, k1, k2⟩ := Inv.advance F T _ c1 pb1 G1 (Nat.le_refl _) hinv
   exact ih _ c2 pb2 G2 a2 w1 k1 k2 hcnt'
  have hdo : cDst n s.o.dst = true := by rw [hdst]; exact hd
  have pbi : pb i = none := by
   cases hp : pb i with
   | none => rfl
   | some b => exact absurd (h.pend i b hp).1 hi
  have cle : Eff aos i → c ≤ effB aos i := by
   intro hE
   rcases Nat.lt_or_ge (effB aos i) c with hh | hh
   · exact absurd (h.low i hE hh) hi
   · exact hh
  -- no effect, or the next one
  have plain : ∀ (c1 : Nat) (s1 : St) (v' : Value) (G1 : Gh) (w1 : World), (c1 = c ∨ (c1 = c + 1 ∧ Eff aos i ∧ effB aos i = c)) → (Eff aos i → c1 ≤ effB aos i → Alloc aos i ∧ s.ran = false) → ss[c1]? = some s1 → Rs G1 s1 w1 → Ext G w G1 w1 → Rv G1 w1 s.v v' →
    wpAnyIn (Fr fr) 0 P .any ops Q fuel (listed.setIfInBounds i true) (a.put o.dst v') w1 := by
   intro c1 s1 v' G1 w1 hc1 hE hst1 hrs1 hext hv
   rw [← hdst]
   refine fin c1 pb G1 _ w1 (h.step F T C hs hdo hi hpre hst1 hrs1 (hext.less h.sub) (fun b hb => ⟨by rw [hext.prot]; exact hb, hext.frp b hb, hext.below.block b hb⟩) ?_ (by omega) ?_ ?_ ?_ (fun _ _ => rfl) (fun b hb => by rw [pbi] at hb; cases hb) (fun b hb => .inl (by rw [← hext.prot]; exact hb)) fun _ => hv)
   · rcases hc1 with rfl | ⟨rfl, k1, k2⟩
     · exact h.cE
     · have := effB_lt k1 k1.lt; omega
   · intro e he hlt
     rcases hc1 with rfl | ⟨rfl, k1, k2⟩
     · exact .inl (h.low e he hlt)
     · rcases Nat.lt_or_ge (effB aos e) c with hh | hh
       · exact .inl (h.low e he hh)
       · exact .inr (effB_inj he k1 (by omega))
   · intro k1 k2
     obtain ⟨q1, q2⟩ := hE k1 k2
     exact ⟨q1, fun hh => by rw [q2] at hh; cases hh⟩
   · intro j b hj
     obtain ⟨q1, q2, ⟨⟨u, z, arr, t, d, e1, e2, e3, _⟩, _, _, _⟩⟩ := h.pend j b hj
     rcases hc1 with rfl | ⟨rfl, k1, k2⟩
     · exact q2
     · have hjE : Eff aos j := ⟨u.o, T.op j u e1, by rw [e3]; rfl⟩
       rcases Nat.lt_or_ge c (effB aos j) with hh | hh
       · exact hh
       · have := effB_inj hjE k1 (by omega)
         subst this; exact absurd q1 hi
  -- an effect that is no allocation comes in its turn
  have turn : Eff aos i → ¬ Alloc aos i → effB aos i = c := by
   intro hE hA
   have := cle hE
   rcases Nat.lt_or_ge c (effB aos i) with hh | hh
   · have := effB_lt hE hE.lt
     have hl : c < (effs aos).length := by rw [effs_len]; omega
     obtain ⟨h1, h2⟩ := effs_get (List.getElem?_eq_getElem hl)
     have hlt : (effs aos)[c] < i := by
      rcases Nat.lt_or_ge (effs aos)[c] i with q | q
      · exact q
      · have := effB_mono (l := aos) q; omega
     rcases F.f3 _ i h1 hE hlt with q | q
     · exact absurd (hpre _ h1.lt q) (hmax _ h1 h2)
     · exact absurd q hA
   · omega
  unfold wpOpIn
  simp only [ho]
  cases hb : s.ran with
  | false =>
   rw [hwant, hb]
   simp only [Bool.false_eq_true, if_false]
   refine ⟨fun _ _ => trivial, ?_⟩
   obtain ⟨hv, hs1⟩ := hr2 hb
   have hu : Rv G w s.v undef := by rw [hv]; exact Rv.undef
   by_cases hE : Eff aos i
   · by_cases hA : Alloc aos i
     · exact plain c sc undef G w (.inl rfl) (fun _ _ => ⟨hA, hb⟩) hsc hrs (Ext.refl _ _) hu
     · have ht := turn hE hA
       rw [ht, hsc] at hs0; cases hs0
       rw [effB_eff hE, ht] at hs1
       exact plain (c + 1) s0 undef G w (.inr ⟨rfl, hE, ht⟩) (fun _ hh => by omega) hs1 hrs (Ext.refl _ _) hu
   · exact plain c sc undef G w (.inl rfl) (fun hh => absurd hh hE) hsc hrs (Ext.refl _ _) hu
  | true =>
   rw [hwant, hb]
   simp only [if_true]
   obtain ⟨s1, hrn, hs1⟩ := hr1 hb
   cases hk : s.o.op.kind with
   | pure =>
    have hE : ¬ Eff aos i := by rintro ⟨q, q1, q2⟩; rw [hao] at q1; cases q1; rw [hk] at q2; cases q2
    have hrun' : s.o.op.run call ρ1 sc = some (s.v, sc) := by rw [hrun]; exact pure_any hk hrn sc
    refine op_wp hg hI hco hrun' hrs hr hexec ?_
    intro v' w1 G1 e1 e2 e3
    exact plain c sc v' G1 w1 (.inl rfl) (fun hh => absurd hh hE) hsc e1 e2 e3
   | read =>
    have hE : ¬ Eff aos i := by rintro ⟨q, q1, q2⟩; rw [hao] at q1; cases q1; rw [hk] at q2; cases q2
    have hrun' : s.o.op.run call ρ1 sc = some (s.v, sc) := by
     rw [hrun]
     by_cases hce : c = effB aos i
     · rw [← hce, hsc] at hs0; cases hs0
       rw [still (by rw [hk]; simp) hrn] at hrn; exact hrn
     · have hsee : c ∈ s.o.see := by
        refine F.f8 i s.o c hao hk ?_ ?_ hce
        · refine takeWhile_le _ _ _ fun e he => ?_
          obtain ⟨q1, q2⟩ := effs_get he
          cases hpp : bitOf (preOf ops) i e with
          | false => rfl
          | true => exact absurd (hpre e q1.lt hpp) (hmax e q1 q2)
        · refine takeWhile_ge _ _ _ (by rw [effs_len]; exact h.cE) fun k e hkc he => ?_
          obtain ⟨q1, q2⟩ := effs_get he
          cases hpp : bitOf (preOf ops) e i with
          | false => rfl
          | true => exact absurd (h.cl e i hil (h.low e q1 (by omega)) hpp) hi
       rw [List.all_eq_true] at hal
       have := hal s (List.mem_of_getElem? hs)
       unfold Step.alike at this
       rw [hb] at this
       simp only [Bool.not_true, Bool.false_or, List.all_eq_true] at this
       have := this c hsee
       rw [hsc] at this
       simp only [decide_eq_true_eq, Option.map_eq_some_iff] at this
       obtain ⟨⟨v, σx⟩, q1, q2⟩ := this
       simp only at q2; subst q2
       rw [still (by rw [hk]; simp) q1] at q1; exact q1
    refine op_wp hg hI hco hrun' hrs hr hexec ?_
    intro v' w1 G1 e1 e2 e3
    exact plain c sc v' G1 w1 (.inl rfl) (fun hh => absurd hh hE) hsc e1 e2 e3
   | effect =>
    have hE : Eff aos i := ⟨s.o, hao, hk⟩
    by_cases hA : Alloc aos i
    · obtain ⟨q, q1, q2⟩ := hA
      rw [hao] at q1; cases q1
      have hz : ∃ z, s.o.op = .box (.c z) := by
       cases hop : s.o.op with
       | box x => cases x with
        | t _ => rw [hop] at q2; cases q2
        | c z => exact ⟨z, rfl⟩
       | _ => rw [hop] at q2; cases q2
      obtain ⟨z, hz⟩ := hz
      obtain ⟨⟨d, hdd⟩, _⟩ := F.f7 i s.o hao q2
      rw [hz] at hco
      obtain ⟨arr, t, hcells, halloc⟩ := alloc_run hco
      refine ⟨fun _ _ => trivial, ?_⟩
      rw [Oper.semAt_eq _ _ _ (fun c hc => by have := F.f9; obtain ⟨dst, op, type, pos, after, guard⟩ := o; simp only at hc; subst hc; cases hco), halloc a w, Oper.uponIn_value]
      rw [← hdst]
      obtain ⟨g1, g2⟩ := hrs.garbage (.cells arr t)
      obtain ⟨g1', g2'⟩ := (hrs.less (p := G0.prot) h.sub).garbage (.cells arr t)
      have hold : ∀ b, G.prot b → b < w.heap.size := hrs.prot
      have hG1 : Rs (G.withProt fun k => G.prot k ∨ k = w.heap.size) sc (w.alloc (.cells arr t)) := by
       refine g1.prots (fun b hb => ?_) fun o x b hx hbl hpb => ?_
       · simp only [World.size_alloc]
         rcases hb with hb | rfl
         · have := hold b hb; omega
         · omega
       · have q1 := (hrs.notProt hx hbl)
         rcases hpb with hpb | rfl
         · exact q1.1 hpb
         · exact absurd q1.2 (Nat.lt_irrefl _)
      have hdn : d < a.tmps.size := by rw [hdd] at hdo; simpa [cDst, h.tsz] using hdo
      refine fin c (fun j => if j = i then some w.heap.size else pb j) _ _ _ (h.step F T C hs hdo hi hpre hsc hG1 g2' (fun b hb => ⟨.inl hb, rfl, heap_alloc_lt w _ (hold b hb)⟩) h.cE (Nat.le_refl _) (fun e he hlt => .inl (h.low e he hlt))
       (fun _ _ => ⟨⟨s.o, hao, q2⟩, fun _ => ⟨w.heap.size, by simp⟩⟩) (fun j b hj => (h.pend j b hj).2.1) (fun j hj => by simp [hj]) ?_ (fun b hb => hb.imp id (fun e => by simp [e])) (fun hh => by simp at hh))
      intro b hbe
      simp only [if_true, Option.some.injEq] at hbe
      subst hbe
      exact ⟨⟨⟨s, z, arr, t, d, hs, hb, hz, hdd, heap_alloc_at w _, hcells _ _, by rw [hdd]; exact getD_put_eq hdn⟩, hrs.fr _ (Nat.le_refl _), .inr rfl, fun ho => Nat.lt_irrefl _ (hold _ (h.sub _ ho))⟩, cle hE, fun j hj => Nat.lt_irrefl _ (hold _ (h.pend j _ hj).2.2.prot)⟩
    · have ht := turn hE hA
      rw [ht, hsc] at hs0; cases hs0
      rw [effB_eff hE, ht] at hs1
      refine op_wp hg hI hco (by rw [hrun]; exact hrn) hrs hr hexec ?_
      intro v' w1 G1 e1 e2 e3
      exact plain (c + 1) s1 v' G1 w1 (.inr ⟨rfl, hE, ht⟩) (fun _ hh => by omega) hs1 e1 e2 e3
end
end Go.Ab
