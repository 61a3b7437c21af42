/- The document's gateway: rights, what is seen. The document's gateway: a question. Two messages that are the same. -/
import Derived.Test.YtehdjkikcfeiaaaGreatGateU
namespace Go.Proofs.YtehdjkikcfeiaaaGreat.jn
open Go.Ab fr dk rg
set_option maxRecDepth 100000
set_option maxHeartbeats 8000000
set_option linter.unusedSimpArgs false
set_option linter.unusedVariables false
structure GD (σ : St) (r rj w : Nat) (L : List Tk) (jbr : Int) (S : List Sn) (br : Int) : Prop where
 g : ∃ sv, σ.get r = some (.cells [.ptr rj 0, sv, .sc (.int .i64 br)]) ∧ RV 3 sv (S.map snc)
 j : JR σ rj w L jbr
theorem GD.kept {X : Nat → Prop} {σ σ' : St} {r rj w : Nat} {L : List Tk} {jbr : Int} {S : List Sn} {br : Int} (h : GD σ r rj w L jbr S br) (k : Kept X σ σ') (h1 : ¬ X r) (h2 : ¬ X rj) : GD σ' r rj w L jbr S br := by
 obtain ⟨sv, g, hs⟩ := h.g
 exact ⟨⟨sv, k.get _ _ h1 g, hs⟩, h.j.kept k h2⟩
theorem GD.kept0 {σ σ' : St} {r rj w : Nat} {L : List Tk} {jbr : Int} {S : List Sn} {br : Int} (h : GD σ r rj w L jbr S br) (k : Kept noX σ σ') : GD σ' r rj w L jbr S br := h.kept k (fun h => h) (fun h => h)
theorem rabove_ok (k : Nat) (ys : YlF) (σ : St) (a : Nx) (x : Tk) : callY Tab.tb (k + 1) ys 32 [.agg [.sc (.int .i64 a.f), .sc (.int .i64 a.e)], .agg [.sc (.int .i64 x.term), .sc (.int .i64 x.ep)]] σ = some (.sc (.bool (decide (tabv a x))), σ.bump.bump) := by
 rw [s_call (af := Tab.b32) rfl (Nat.le_of_ble_eq_true rfl)]
 generalize callY Tab.tb k = cy
 unfold tabv
 by_cases c1 : a.f > x.term
 · have d1 : decide (a.f > x.term) = true := by simpa using c1
   have : decide (a.f > x.term ∨ (a.f = x.term ∧ a.e > x.ep)) = true := decide_eq_true (.inl c1)
   rw [this]
   simp -implicitDefEqProofs (disch := first | exact nbf rfl | exact nbt rfl | (simp only [zN.down, reduceCtorEq] <;> omega) | omega) only [Tab.b32, d1, XOp.kind, AOp.kind, zU.down, simprocAttr]
 have d1 : decide (a.f > x.term) = false := by simpa using c1
 by_cases c2 : a.f = x.term
 · have d2 := beq_iff_eq.2 c2
   have : decide (a.f > x.term ∨ (a.f = x.term ∧ a.e > x.ep)) = decide (a.e > x.ep) := by
    simp [c2]
   rw [this]
   simp -implicitDefEqProofs (disch := first | exact nbf rfl | exact nbt rfl | (simp only [zN.down, reduceCtorEq] <;> omega) | omega) only [Tab.b32, d1, d2, XOp.kind, AOp.kind, zU.down, simprocAttr]
 · have d2 := beq_eq_false_iff_ne.2 c2
   have : decide (a.f > x.term ∨ (a.f = x.term ∧ a.e > x.ep)) = false := by
    simp only [decide_eq_false_iff_not]; omega
   rw [this]
   simp -implicitDefEqProofs (disch := first | exact nbf rfl | exact nbt rfl | (simp only [zN.down, reduceCtorEq] <;> omega) | omega) only [Tab.b32, d1, d2, XOp.kind, AOp.kind, zU.down, simprocAttr]
theorem snc_cells {v : V} {S : List Sn} (h : RV 3 v (S.map snc)) {i : Nat} (hi : i < S.length) : aSlAddr v (.sc (.int .i64 i)) = some (.elt (S.map snc).flatten (i * 3)) ∧ (S.map snc).flatten[i * 3]? = some (.sc (.int .i64 S[i].t)) ∧ ((S.map snc).flatten.drop (i * 3 + 1)).take 2 = [.sc (.int .i64 S[i].f), .sc (.int .i64 S[i].e)] ∧ (i * 3 + 1 + 2 ≤ (S.map snc).flatten.length) = True ∧ ((S.map snc).flatten.drop (i * 3)).take 3 = snc S[i] ∧ (i * 3 + 3 ≤ (S.map snc).flatten.length) = True := by
 have c0 := h.cellAt (i := i) (j := 0) (by simpa using hi) (by omega)
 obtain ⟨a1, a2, a3⟩ := h.at (i := i) (by simpa using hi)
 have a2' := of_eq_true a2
 have e : ((S.map snc).flatten.drop (i * 3 + 1)).take 2 = ((((S.map snc).flatten.drop (i * 3)).take 3).drop 1).take 2 := by
  rw [List.drop_take, List.take_take, List.drop_drop]
  rfl
 refine ⟨a1, by simpa [snc] using c0, by rw [e, a3, List.getElem_map]; rfl, by simp only [eq_iff_iff, iff_true]; omega, by rw [a3, List.getElem_map], a2⟩
theorem rright_ok (k : Nat) (ys : YlF) (σ : St) (r rj w : Nat) (L : List Tk) (jbr : Int) (S : List Sn) (br t : Int) (h : GD σ r rj w L jbr S br) (hS : Ds S) (hSl : S.length ≤ 1000000) (hc : ∀ x ∈ L, tchk x = 0) (hL : L.length ≤ 1000000) (hk : 1000020 ≤ k) :
  W (callY Tab.tb (k + 2) ys 21 [.ptr r 0, .sc (.int .i64 t)] σ) fun q => q.1 = .tup [.agg [.sc (.int .i64 (gright L S t).1), .sc (.int .i64 (gright L S t).2)], .sc (.int .i64 (taken L t))] ∧ Kept noX σ q.2 := by
 rw [s_call (af := Tab.b21) rfl (Nat.le_of_ble_eq_true rfl)]
 have hnx := fun σ v h => rnext_ok k ys σ v L t h hc hL hk
 have hab := fun σ a x => rabove_ok k ys σ a x
 generalize callY Tab.tb (k + 1) = cy at hnx hab ⊢
 obtain ⟨sv, g, hs⟩ := h.g
 obtain ⟨v, gj, hv⟩ := h.j
 have slen := hs.len
 have ssize := hs.size
 rw [List.length_map] at slen
 have hn := tnx_b hc t
 have hst := stp_look hS t ((tnx L t).f, (tnx L t).e) hn.1 hn.2.1
 unfold gright taken
 rw [← hst]
 clear hst
 simp -implicitDefEqProofs (disch := first | exact nbf rfl | exact nbt rfl | (simp only [zN.down, reduceCtorEq] <;> omega) | omega) only [Tab.b21, g, gj, XOp.kind, AOp.kind, zU.down, simprocAttr]
 repeat first | apply w_fin | apply w_seq | apply w_block | apply w_reg | apply w_op | apply w_dop
 refine (hnx _ v hv).mono ?_
 rintro ⟨_, σ2⟩ ⟨rfl, k2⟩
 dsimp only at k2
 have k2 : Kept noX σ σ2 := (Kept.refl noX σ).bump.trans k2
 generalize tnx L t = T at *
 have w1 : IntKind.i64.wrap (T.n - 1) = T.n - 1 := wrap64 (by omega) (by omega)
 simp -implicitDefEqProofs (disch := first | exact nbf rfl | exact nbt rfl | (simp only [zN.down, reduceCtorEq] <;> omega) | omega) only [XOp.kind, AOp.kind, zU.down, simprocAttr]
 repeat first | apply w_fin | apply w_seq | apply w_block | apply w_reg | apply w_op | apply w_dop
 refine W.mono (Q := fun q => ∃ (ρ : Env) (σ' : St), q = ((.exit 0 : Ex), ρ, σ') ∧ ρ 4 = .agg [.sc (.int .i64 0), .sc (.int .i64 0)] ∧ ρ 6 = .agg [.sc (.int .i64 (S.foldl (stp t) (T.f, T.e)).1), .sc (.int .i64 (S.foldl (stp t) (T.f, T.e)).2)] ∧ ρ 7 = .sc (.int .i64 T.n) ∧ Kept noX σ σ') ?_ ?_
 · refine w_loop (fun m ρ σ' => ∃ i : Nat, m = S.length - i ∧ i ≤ S.length ∧ ρ 0 = .ptr r 0 ∧ ρ 1 = .sc (.int .i64 t) ∧ ρ 4 = .agg [.sc (.int .i64 0), .sc (.int .i64 0)] ∧ ρ 6 = .agg [.sc (.int .i64 ((S.take i).foldl (stp t) (T.f, T.e)).1), .sc (.int .i64 ((S.take i).foldl (stp t) (T.f, T.e)).2)] ∧ ρ 7 = .sc (.int .i64 T.n) ∧ ρ 8 = .sc (.int .i64 i) ∧ Kept noX σ σ') S.length (by omega) ?_ ?_
   · refine ⟨0, rfl, Nat.zero_le _, ?_, ?_, ?_, ?_, ?_, ?_, by ((repeat (first | refine Kept.push ?_ _ | refine Kept.bump ?_ | refine Kept.put ?_ (.inr (by omega)) (by first | omega | (simp only [St.n_put, St.n_push]; omega)) _)); first | exact Kept.refl _ _ | assumption)⟩
     all_goals first | rfl | (simp -implicitDefEqProofs (disch := first | exact nbf rfl | exact nbt rfl | (simp only [zN.down, reduceCtorEq] <;> omega) | omega) only [XOp.kind, AOp.kind, zU.down, simprocAttr]; done) | (simp -implicitDefEqProofs (disch := first | exact nbf rfl | exact nbt rfl | (simp only [zN.down, reduceCtorEq] <;> omega) | omega) only [List.foldl_nil, XOp.kind, AOp.kind, zU.down, simprocAttr]; done)
   · rintro m ρ σ' ⟨i, hm, hi, e0, e1, e4, e6, e7, e8, kp⟩
     have g' := kp.get _ _ (fun h => h) g
     by_cases hil : i < S.length
     · have c1 : decide ((i : Int) < (S.length : Int)) = true := by simpa using hil
       obtain ⟨a1, a2, a3, a4, _, _⟩ := snc_cells hs hil
       have hst : (S.take (i + 1)).foldl (stp t) (T.f, T.e) = stp t ((S.take i).foldl (stp t) (T.f, T.e)) S[i] := by
        rw [List.take_add_one, List.getElem?_eq_getElem hil, List.foldl_append]; rfl
       generalize S[i] = x at *
       generalize (S.take i).foldl (stp t) (T.f, T.e) = A at *
       have w3 : IntKind.i64.wrap ((i : Int) + 1) = ((i + 1 : Nat) : Int) := wrap64 (by omega) (by omega)
       by_cases ht : x.t = t
       · have c2 := beq_iff_eq.2 ht
         by_cases hq : tabv ⟨x.f, x.e, 0⟩ ⟨0, A.1, A.2, 0, []⟩
         · have ha := fun σ => hab σ ⟨x.f, x.e, 0⟩ ⟨0, A.1, A.2, 0, []⟩
           rw [decide_eq_true hq] at ha
           have hs1 : stp t A x = (x.f, x.e) := by unfold stp; rw [if_pos ⟨ht, hq⟩]
           dsimp only at ha
           simp -implicitDefEqProofs (disch := first | exact nbf rfl | exact nbt rfl | (simp only [zN.down, reduceCtorEq] <;> omega) | omega) only [c1, e0, e1, e4, e6, e7, e8, slen, ssize, g', a1, a2, a3, a4, c2, ha, w3, XOp.kind, AOp.kind, zU.down, simprocAttr]
           exact ⟨S.length - (i + 1), by omega, i + 1, rfl, hil, by rw [hst, hs1], rfl, kp.bump.bump⟩
         · have ha := fun σ => hab σ ⟨x.f, x.e, 0⟩ ⟨0, A.1, A.2, 0, []⟩
           rw [decide_eq_false hq] at ha
           have hs1 : stp t A x = A := by unfold stp; rw [if_neg (fun h => hq h.2)]
           dsimp only at ha
           simp -implicitDefEqProofs (disch := first | exact nbf rfl | exact nbt rfl | (simp only [zN.down, reduceCtorEq] <;> omega) | omega) only [c1, e0, e1, e4, e6, e7, e8, slen, ssize, g', a1, a2, a3, a4, c2, ha, w3, XOp.kind, AOp.kind, zU.down, simprocAttr]
           exact ⟨S.length - (i + 1), by omega, i + 1, rfl, hil, by rw [hst, hs1], rfl, kp.bump.bump⟩
       · have c2 := beq_eq_false_iff_ne.2 ht
         have hs1 : stp t A x = A := by unfold stp; rw [if_neg (fun h => ht h.1)]
         simp -implicitDefEqProofs (disch := first | exact nbf rfl | exact nbt rfl | (simp only [zN.down, reduceCtorEq] <;> omega) | omega) only [c1, e0, e1, e4, e6, e7, e8, slen, ssize, g', a1, a2, c2, w3, XOp.kind, AOp.kind, zU.down, simprocAttr]
         exact ⟨S.length - (i + 1), by omega, i + 1, rfl, hil, by rw [hst, hs1], rfl, kp⟩
     · have c1 : decide ((i : Int) < (S.length : Int)) = false := by simpa using hil
       have : i = S.length := by omega
       subst this
       rw [List.take_length] at e6
       simp -implicitDefEqProofs (disch := first | exact nbf rfl | exact nbt rfl | (simp only [zN.down, reduceCtorEq] <;> omega) | omega) only [c1, e0, e8, slen, g', XOp.kind, AOp.kind, zU.down, simprocAttr]
       refine ⟨_, _, rfl, ?_, ?_, ?_, kp⟩
       all_goals (simp -implicitDefEqProofs (disch := first | exact nbf rfl | exact nbt rfl | (simp only [zN.down, reduceCtorEq] <;> omega) | omega) only [e4, e6, e7, XOp.kind, AOp.kind, zU.down, simprocAttr]; done)
 · rintro _ ⟨ρ, σ', rfl, e4, e6, e7, kp⟩
   simp -implicitDefEqProofs (disch := first | exact nbf rfl | exact nbt rfl | (simp only [zN.down, reduceCtorEq] <;> omega) | omega) only [e4, e6, e7, w1, XOp.kind, AOp.kind, zU.down, simprocAttr]
   exact kp
theorem sees_ok (k : Nat) (ys : YlF) (σ : St) (r rj w : Nat) (L : List Tk) (jbr : Int) (S : List Sn) (br t f e : Int) (h : GD σ r rj w L jbr S br) (hSl : S.length ≤ 1000000) (hne : rj ≠ r) (hk : 1000020 ≤ k) :
  W (callY Tab.tb (k + 1) ys 35 [.ptr r 0, .sc (.int .i64 t), .agg [.sc (.int .i64 f), .sc (.int .i64 e)]] σ) fun q => GD q.2 r rj w L jbr (sees S t f e) br ∧ Kept (· = r) σ q.2 := by
 rw [s_call (af := Tab.b35) rfl (Nat.le_of_ble_eq_true rfl)]
 generalize callY Tab.tb k = cy
 obtain ⟨sv, g, hs⟩ := h.g
 have hj := h.j
 have slen := hs.len
 have ssize := hs.size
 rw [List.length_map] at slen
 have bs : ∀ a b c : V, aBslice 3 1 [.sc (.int .i64 0), .sc (.int .i64 0), .sc (.int .i64 0)] [(0, 3, .agg [a, b, c])] = some (.vs .exact 3 1 [a, b, c]) := fun a b c => rfl
 have hrv : ∀ x : Sn, RV 3 (.vs .exact 3 1 (snc x)) ([x].map snc) := fun x => RV.vs (own := .exact) (sz := 3) (es := [x].map snc) (by simp [snc]) (by simp [snc, V.oneCell])
 simp -implicitDefEqProofs (disch := first | exact nbf rfl | exact nbt rfl | (simp only [zN.down, reduceCtorEq] <;> omega) | omega) only [Tab.b35, XOp.kind, AOp.kind, zU.down, simprocAttr]
 repeat first | apply w_fin | apply w_seq | apply w_block | apply w_reg | apply w_op | apply w_dop
 refine W.mono (Q := fun q => ∃ (ρ : Env) (σ' : St) (v : V), q = ((.exit 0 : Ex), ρ, σ') ∧ ρ 0 = .ptr r 0 ∧ ρ 1 = .sc (.int .i64 t) ∧ ρ 5 = .agg [.sc (.int .i64 f), .sc (.int .i64 e)] ∧ ρ 6 = v ∧ Ow σ.n σ' 3 v ((S.filter fun s => s.t != t).map snc) ∧ Kept noX σ σ') ?_ ?_
 · refine w_loop (fun m ρ σ' => ∃ (i : Nat) (v : V), m = S.length - i ∧ i ≤ S.length ∧ ρ 0 = .ptr r 0 ∧ ρ 1 = .sc (.int .i64 t) ∧ ρ 5 = .agg [.sc (.int .i64 f), .sc (.int .i64 e)] ∧ ρ 6 = v ∧ ρ 7 = .sc (.int .i64 i) ∧ Ow σ.n σ' 3 v (((S.take i).filter fun s => s.t != t).map snc) ∧ Kept noX σ σ') S.length (by omega) ?_ ?_
   · refine ⟨0, .sc .nilS, rfl, Nat.zero_le _, ?_, ?_, ?_, ?_, ?_, .nil, by ((repeat (first | refine Kept.push ?_ _ | refine Kept.bump ?_ | refine Kept.put ?_ (.inr (by omega)) (by first | omega | (simp only [St.n_put, St.n_push]; omega)) _)); first | exact Kept.refl _ _ | assumption)⟩
     all_goals first | rfl | (simp -implicitDefEqProofs (disch := first | exact nbf rfl | exact nbt rfl | (simp only [zN.down, reduceCtorEq] <;> omega) | omega) only [XOp.kind, AOp.kind, zU.down, simprocAttr]; done)
   · rintro m ρ σ' ⟨i, v, hm, hi, e0, e1, e5, e6, e7, how, kp⟩
     have g' := kp.get _ _ (fun h => h) g
     by_cases hil : i < S.length
     · have c1 : decide ((i : Int) < (S.length : Int)) = true := by simpa using hil
       obtain ⟨a1, a2, _, _, a5, a6⟩ := snc_cells hs hil
       have hst : ((S.take (i + 1)).filter fun s => s.t != t) = ((S.take i).filter fun s => s.t != t) ++ if S[i].t = t then [] else [S[i]] := by
        rw [List.take_add_one, List.getElem?_eq_getElem hil, List.filter_append]
        by_cases c : S[i].t = t <;> simp [c]
       have hlf : ((S.take i).filter fun s => s.t != t).length ≤ i := by
        have := List.length_filter_le (fun s : Sn => s.t != t) (S.take i)
        rw [List.length_take] at this
        omega
       generalize S[i] = x at *
       have w3 : IntKind.i64.wrap ((i : Int) + 1) = ((i + 1 : Nat) : Int) := wrap64 (by omega) (by omega)
       by_cases ht : x.t = t
       · have c2 : (x.t != t) = false := by simp [ht]
         rw [if_pos ht, List.append_nil] at hst
         simp -implicitDefEqProofs (disch := first | exact nbf rfl | exact nbt rfl | (simp only [zN.down, reduceCtorEq] <;> omega) | omega) only [c1, e0, e1, e6, e7, slen, ssize, g', a1, a2, c2, w3, XOp.kind, AOp.kind, zU.down, simprocAttr]
         exact ⟨S.length - (i + 1), by omega, i + 1, v, rfl, hil, e5, rfl, rfl, by rw [hst]; exact how, kp⟩
       · have c2 : (x.t != t) = true := by simp [ht]
         rw [if_neg ht] at hst
         have f1 := grow_ok (bytes := 24) how (hrv x) kp.n (by unfold roomB; simp; omega) (by unfold roomB; simp; omega)
         rw [← List.map_append, ← hst] at f1
         simp only [snc] at f1 a5
         simp -implicitDefEqProofs (disch := first | exact nbf rfl | exact nbt rfl | (simp only [zN.down, reduceCtorEq] <;> omega) | omega) only [c1, e0, e1, e6, e7, slen, ssize, g', a1, a2, a5, a6, c2, bs, w3, XOp.kind, AOp.kind, zU.down, simprocAttr]
         repeat first | apply w_fin | apply w_seq | apply w_block | apply w_reg | apply w_op | apply w_dop
         refine f1.mono ?_
         rintro ⟨v', σ3⟩ ⟨h1, h2⟩
         dsimp only at h1 h2
         simp -implicitDefEqProofs (disch := first | exact nbf rfl | exact nbt rfl | (simp only [zN.down, reduceCtorEq] <;> omega) | omega) only [e0, e1, e5, e7, w3, XOp.kind, AOp.kind, zU.down, simprocAttr]
         exact ⟨S.length - (i + 1), by omega, i + 1, v', rfl, hil, rfl, rfl, h1, h2.kept kp (Nat.le_refl _)⟩
     · have c1 : decide ((i : Int) < (S.length : Int)) = false := by simpa using hil
       have : i = S.length := by omega
       subst this
       rw [List.take_length] at how
       simp -implicitDefEqProofs (disch := first | exact nbf rfl | exact nbt rfl | (simp only [zN.down, reduceCtorEq] <;> omega) | omega) only [c1, e0, e7, slen, g', XOp.kind, AOp.kind, zU.down, simprocAttr]
       refine ⟨_, _, v, rfl, ?_, ?_, ?_, ?_, how, kp⟩
       all_goals (simp -implicitDefEqProofs (disch := first | exact nbf rfl | exact nbt rfl | (simp only [zN.down, reduceCtorEq] <;> omega) | omega) only [e0, e1, e5, e6, XOp.kind, AOp.kind, zU.down, simprocAttr]; done)
 · rintro _ ⟨ρ, σ', v, rfl, e0, e1, e5, e6, how, kp⟩
   have hlf := List.length_filter_le (fun s : Sn => s.t != t) S
   have f1 := grow_ok (bytes := 24) how (hrv ⟨t, f, e⟩) kp.n (by unfold roomB; simp; omega) (by unfold roomB; simp; omega)
   rw [← List.map_append] at f1
   simp only [snc] at f1
   simp -implicitDefEqProofs (disch := first | exact nbf rfl | exact nbt rfl | (simp only [zN.down, reduceCtorEq] <;> omega) | omega) only [e0, e1, e5, e6, bs, XOp.kind, AOp.kind, zU.down, simprocAttr]
   repeat first | apply w_fin | apply w_seq | apply w_block | apply w_reg | apply w_op | apply w_dop
   refine f1.mono ?_
   rintro ⟨v', σ3⟩ ⟨h1, h2⟩
   dsimp only at h1 h2
   have k3 := h2.kept kp (Nat.le_refl _)
   have g3 := k3.get _ _ (fun h => h) g
   have hc := h1.rv.cell
   have lg := St.get_lt g3
   simp -implicitDefEqProofs (disch := first | exact nbf rfl | exact nbt rfl | (simp only [zN.down, reduceCtorEq] <;> omega) | omega) only [g3, hc.1, hc.2, XOp.kind, AOp.kind, zU.down, simprocAttr]
   have kk : Kept (· = r) σ3 (σ3.put r (some (.cells [.ptr rj 0, v', .sc (.int .i64 br)]))) := Kept.put (X := (· = r)) (Kept.refl _ _) (.inl rfl) lg _
   exact ⟨⟨⟨v', get_put_self g3, h1.rv⟩, (hj.kept k3 (fun h => h)).kept kk hne⟩, k3.any.trans kk⟩
theorem sl_mid {u : List UInt8} {i j : Nat} (h : i ≤ j) (h2 : j ≤ u.length) : aSlice (.str u) (some (.sc (.int .i64 (i : Int)))) (some (.sc (.int .i64 (j : Int)))) none = some (.str ((u.drop i).take (j - i))) := by
 have : (i : Int) ≤ (u.length : Int) := by omega
 simp [aSlice, aBounds, aBnd, h, h2]
theorem rpull_ok (k : Nat) (ys : YlF) (σ : St) (o : Option (List UInt8)) (a : Int) (ho : olen o ≤ 1099511627776) : callY Tab.tb (k + 1) ys 34 [ovl o, .sc (.int .i64 a)] σ = some (.tup [.str (pull o a).1, .sc (.int .i64 (pull o a).2.1), .sc (.int .i64 (pull o a).2.2)], σ.bump) := by
 rw [s_call (af := Tab.b34) rfl (Nat.le_of_ble_eq_true rfl)]
 generalize callY Tab.tb k = cy
 cases o with
 | none =>
  simp only [ovl, Option.isSome_none, Option.getD_none]
  simp -implicitDefEqProofs (disch := first | exact nbf rfl | exact nbt rfl | (simp only [zN.down, reduceCtorEq] <;> omega) | omega) only [Tab.b34, XOp.kind, AOp.kind, zU.down, simprocAttr]
  rfl
 | some s =>
  unfold olen at ho
  simp only [ovl, Option.isSome_some, Option.getD_some, pull] at ho ⊢
  unfold rfrom
  have body : ∀ b : Int, b = max a ((s.length - 1024 : Nat) : Int) → ¬ (b > s.length) → aSlice (.str s) (some (.sc (.int .i64 b))) (some (.sc (.int .i64 (min (s.length : Int) (b + 64))))) none = some (.str ((s.drop b.toNat).take 64)) := by
   intro b hb hb2
   obtain ⟨n, rfl⟩ : ∃ n : Nat, b = n := ⟨b.toNat, by omega⟩
   have hm : min (s.length : Int) ((n : Int) + 64) = ((min s.length (n + 64) : Nat) : Int) := by omega
   rw [hm, sl_mid (by omega) (by omega), Int.toNat_natCast]
   congr 2
   rw [List.take_eq_take_iff, List.length_drop]
   omega
  by_cases c1 : a < ((s.length - 1024 : Nat) : Int)
  · have d1 : decide (a < ((s.length - 1024 : Nat) : Int)) = true := by simpa using c1
    have hb := body ((s.length - 1024 : Nat) : Int) (by omega) (by omega)
    have d2 : decide (((s.length - 1024 : Nat) : Int) > (s.length : Int)) = false := by simp only [decide_eq_false_iff_not]; omega
    rw [if_neg (by omega), show max a ((s.length - 1024 : Nat) : Int) = ((s.length - 1024 : Nat) : Int) by omega]
    dsimp only
    have w1 : IntKind.i64.wrap (((s.length - 1024 : Nat) : Int) + 64) = ((s.length - 1024 : Nat) : Int) + 64 := wrap64 (by omega) (by omega)
    generalize ((s.length - 1024 : Nat) : Int) = b at *
    by_cases c3 : (s.length : Int) > b + 64
    · have d3 : decide ((s.length : Int) > b + 64) = true := by simpa using c3
      rw [show min (s.length : Int) (b + 64) = b + 64 by omega] at hb
      simp -implicitDefEqProofs (disch := first | exact nbf rfl | exact nbt rfl | (simp only [zN.down, reduceCtorEq] <;> omega) | omega) only [Tab.b34, d1, d2, d3, w1, hb, XOp.kind, AOp.kind, zU.down, simprocAttr]
    · have d3 : decide ((s.length : Int) > b + 64) = false := by simpa using c3
      rw [show min (s.length : Int) (b + 64) = s.length by omega] at hb
      simp -implicitDefEqProofs (disch := first | exact nbf rfl | exact nbt rfl | (simp only [zN.down, reduceCtorEq] <;> omega) | omega) only [Tab.b34, d1, d2, d3, w1, hb, XOp.kind, AOp.kind, zU.down, simprocAttr]
  · have d1 : decide (a < ((s.length - 1024 : Nat) : Int)) = false := by simpa using c1
    by_cases c2 : a > s.length
    · have d2 : decide (a > (s.length : Int)) = true := by simpa using c2
      rw [if_pos c2]
      simp -implicitDefEqProofs (disch := first | exact nbf rfl | exact nbt rfl | (simp only [zN.down, reduceCtorEq] <;> omega) | omega) only [Tab.b34, d1, d2, XOp.kind, AOp.kind, zU.down, simprocAttr]
    have d2 : decide (a > (s.length : Int)) = false := by simpa using c2
    have hb := body a (by omega) c2
    rw [if_neg c2, show max a ((s.length - 1024 : Nat) : Int) = a by omega]
    dsimp only
    have w1 : IntKind.i64.wrap (a + 64) = a + 64 := wrap64 (by omega) (by omega)
    by_cases c3 : (s.length : Int) > a + 64
    · have d3 : decide ((s.length : Int) > a + 64) = true := by simpa using c3
      rw [show min (s.length : Int) (a + 64) = a + 64 by omega] at hb
      simp -implicitDefEqProofs (disch := first | exact nbf rfl | exact nbt rfl | (simp only [zN.down, reduceCtorEq] <;> omega) | omega) only [Tab.b34, d1, d2, d3, w1, hb, XOp.kind, AOp.kind, zU.down, simprocAttr]
    · have d3 : decide ((s.length : Int) > a + 64) = false := by simpa using c3
      rw [show min (s.length : Int) (a + 64) = s.length by omega] at hb
      simp -implicitDefEqProofs (disch := first | exact nbf rfl | exact nbt rfl | (simp only [zN.down, reduceCtorEq] <;> omega) | omega) only [Tab.b34, d1, d2, d3, w1, hb, XOp.kind, AOp.kind, zU.down, simprocAttr]
end Go.Proofs.YtehdjkikcfeiaaaGreat.jn
namespace Go.Proofs.YtehdjkikcfeiaaaGreat.jn
open Go.Ab fr dk rg
set_option maxRecDepth 100000
set_option maxHeartbeats 8000000
set_option linter.unusedSimpArgs false
set_option linter.unusedVariables false
def ansr (m : Ms) (G : GI) : Ms := { z0 with k := m.k + 1, fr := 3, to' := m.fr, talk := m.talk, term := m.term, ep := m.ep, seq := G.a.seq, at' := G.a.at', tot := G.a.tot, dat := G.a.dat, er := G.a.er }
theorem rdo_ok {r rj w : Nat} {m : Ms} {o : Option (List UInt8)} {L : List Tk} {M : DM} {jbr br : Int} {S : List Sn} (k : Nat) (ys : YlF) (σ : St) (h : GD σ r rj w L jbr S br) (hd : dk.RR σ w M) {B : Nat} (hm : M.Ok B) (hB : B ≤ 900000) (hen : Cell1 m.en) (ho : olen o ≤ 1099511627776) (hS : Ds S) (hSl : S.length ≤ 1000000) (hc : ∀ x ∈ L, tchk x = 0) (hL : L.length ≤ 900000) (hne : rj ≠ w ∧ r ≠ w ∧ rj ≠ r) (hk : 2200000 ≤ k) :
  W (callY Tab.tb (k + 8) ys 11 [.ptr r 0, .agg (mc m), ovl o] σ) fun q => q.1 = .tup [.agg (mc (gdo m o M L jbr S br).a), .sc (.int .i64 (gdo m o M L jbr S br).e)] ∧ GD q.2 r rj w (gdo m o M L jbr S br).L (gdo m o M L jbr S br).jbr (gdo m o M L jbr S br).S (gdo m o M L jbr S br).br ∧ dk.RR q.2 w (gdo m o M L jbr S br).M ∧ Kept (fun o => o = w ∨ o = rj ∨ o = r) σ q.2 := by
 rw [s_call (af := Tab.b11) rfl (Nat.le_of_ble_eq_true rfl)]
 have hri := fun σ h => rright_ok (k + 5) ys σ r rj w L jbr S br m.talk h hS hSl hc (by omega) (by omega)
 have hab := fun σ a x => rabove_ok (k + 6) ys σ a x
 have hpu := fun σ a => rpull_ok (k + 6) ys σ o a ho
 have hadd := fun σ h hd => radd_ok (B := B) k ys σ rj w L jbr M (tkm m) h hd hne.1 hm (by omega) hc hL hk
 have hse := fun σ L jbr t f e h => sees_ok (k + 6) ys σ r rj w L jbr S br t f e h hSl hne.2.2 (by omega)
 generalize callY Tab.tb (k + 7) = cy at hri hab hpu hadd hse ⊢
 have hen' := hen
 unfold Cell1 at hen'
 obtain ⟨sv, g, hs⟩ := h.g
 have lg := St.get_lt g
 have oc : ∃ a b c, ovl o = .agg [.sc (.bool a), .str b, .sc (.int .i64 c)] ∧ b.length = olen o := ⟨_, _, _, rfl, rfl⟩
 obtain ⟨oa, ob, oc, ho2, hob⟩ := oc
 rw [ho2] at hpu ⊢
 have kb : Kept noX σ σ.bump.bump.bump := (Kept.refl _ _).bump.bump.bump
 have hb := h.kept0 kb
 have hdb := hd.kept kb (fun h => h)
 unfold gdo
 by_cases cb : br = 0
 rotate_left
 · have d0 : (br != 0) = true := by simp [cb]
   rw [if_pos cb]
   simp only [mc, z0]
   simp -implicitDefEqProofs (disch := first | exact nbf rfl | exact nbt rfl | (simp only [zN.down, reduceCtorEq] <;> omega) | omega) only [Tab.b11, g, d0, hen'.1, hen'.2, XOp.kind, AOp.kind, zU.down, simprocAttr]
   exact ⟨hb, hdb, kb.any⟩
 rw [if_neg (by simp [cb])]
 subst cb
 have d0 : ((0 : Int) != 0) = false := rfl
 simp only [mc]
 simp -implicitDefEqProofs (disch := first | exact nbf rfl | exact nbt rfl | (simp only [zN.down, reduceCtorEq] <;> omega) | omega) only [Tab.b11, XOp.kind, s_nil, s_cons, s_consG, s_op, s_gtt, s_gff, s_gtf, s_gft, s_region, s_reg, s_seqn, s_seqr, s_seqe, s_skip, s_ret, s_exit, s_cond, s_condt, s_condf, s_block, s_blockn, s_blockr, s_blocke, s_finr, s_finn, Option.map_some, Option.map_none, upd_o, upd_s, ne_eq, not_false_eq_true, List.getElem?_cons_zero, List.getElem?_cons_succ, Option.getD_some, Bool.false_eq_true, if_false, if_true, List.mapM_cons, List.mapM_nil, Option.bind_eq_bind, Option.bind_some, Option.pure_def, beq_tt, beq_tf, beq_ft, beq_ff, Bool.not_true, Bool.not_false, Nat.succ_ne_zero, List.map_cons, List.map_nil, BEq.rfl, c_agg, c_sc, c_str, c_ptr, c_elt, c_vs, c_os, c_mp, c_fn, o_sc, o_str, o_ptr, o_elt, o_vs, o_os, o_mp, o_fn, not_true_eq_false, x_reg, x_rput, p_agg, St.get_bump, St.n_bump, c_ifc, o_ifc, List.all_cons, List.all_nil, Bool.and_true, Bool.and_self, List.drop_succ_cons, List.drop_zero, List.take_succ_cons, List.take_zero, List.length_cons, List.length_nil, Nat.zero_add, Nat.add_zero, Nat.mul_one, List.cons_append, List.nil_append, St.n_push, St.n_put, get_push_eq, get_push_ne, get_put_eq, get_put_ne, w_some, Nat.le_refl, true_and, and_true, and_self, List.append_nil, b_add, b_sub, b_mul, b_quo, b_rem, b_and, b_or, b_xor, b_eql, b_neq, b_lss, b_leq, b_gtr, b_geq, Int.cast_ofNat_Int, Int.toNat_zero, Int.toNat_one, decide_true, decide_false, bne_self_eq_false, d_draw, d_nil, d_e, d_cons, d_consG, d_op, d_gtt, d_gff, d_gtf, d_gft, AOp.kind, Bool.true_and, s_gu, d_gu, zQ.down, zR.down, zS.down, zT.down, simprocAttr]
 rw [s_seq]
 simp -implicitDefEqProofs (disch := first | exact nbf rfl | exact nbt rfl | (simp only [zN.down, reduceCtorEq] <;> omega) | omega) only [g, d0, hen'.1, hen'.2, XOp.kind, s_nil, s_cons, s_consG, s_op, s_gtt, s_gff, s_gtf, s_gft, s_region, s_reg, s_seqn, s_seqr, s_seqe, s_skip, s_ret, s_exit, s_cond, s_condt, s_condf, s_block, s_blockn, s_blockr, s_blocke, s_finr, s_finn, Option.map_some, Option.map_none, upd_o, upd_s, ne_eq, not_false_eq_true, List.getElem?_cons_zero, List.getElem?_cons_succ, Option.getD_some, Bool.false_eq_true, if_false, if_true, List.mapM_cons, List.mapM_nil, Option.bind_eq_bind, Option.bind_some, Option.pure_def, beq_tt, beq_tf, beq_ft, beq_ff, Bool.not_true, Bool.not_false, Nat.succ_ne_zero, List.map_cons, List.map_nil, BEq.rfl, c_agg, c_sc, c_str, c_ptr, c_elt, c_vs, c_os, c_mp, c_fn, o_sc, o_str, o_ptr, o_elt, o_vs, o_os, o_mp, o_fn, not_true_eq_false, x_reg, x_rput, p_agg, St.get_bump, St.n_bump, c_ifc, o_ifc, List.all_cons, List.all_nil, Bool.and_true, Bool.and_self, List.drop_succ_cons, List.drop_zero, List.take_succ_cons, List.take_zero, List.length_cons, List.length_nil, Nat.zero_add, Nat.add_zero, Nat.mul_one, List.cons_append, List.nil_append, St.n_push, St.n_put, get_push_eq, get_push_ne, get_put_eq, get_put_ne, w_some, Nat.le_refl, true_and, and_true, and_self, List.append_nil, b_add, b_sub, b_mul, b_quo, b_rem, b_and, b_or, b_xor, b_eql, b_neq, b_lss, b_leq, b_gtr, b_geq, Int.cast_ofNat_Int, Int.toNat_zero, Int.toNat_one, decide_true, decide_false, bne_self_eq_false, d_draw, d_nil, d_e, d_cons, d_consG, d_op, d_gtt, d_gff, d_gtf, d_gft, AOp.kind, Bool.true_and, s_gu, d_gu, zQ.down, zR.down, zS.down, zT.down, simprocAttr]
 rw [s_seq, s_seq]
 simp -implicitDefEqProofs (disch := first | exact nbf rfl | exact nbt rfl | (simp only [zN.down, reduceCtorEq] <;> omega) | omega) only [g, d0, hen'.1, hen'.2, XOp.kind, s_nil, s_cons, s_consG, s_op, s_gtt, s_gff, s_gtf, s_gft, s_region, s_reg, s_seqn, s_seqr, s_seqe, s_skip, s_ret, s_exit, s_cond, s_condt, s_condf, s_block, s_blockn, s_blockr, s_blocke, s_finr, s_finn, Option.map_some, Option.map_none, upd_o, upd_s, ne_eq, not_false_eq_true, List.getElem?_cons_zero, List.getElem?_cons_succ, Option.getD_some, Bool.false_eq_true, if_false, if_true, List.mapM_cons, List.mapM_nil, Option.bind_eq_bind, Option.bind_some, Option.pure_def, beq_tt, beq_tf, beq_ft, beq_ff, Bool.not_true, Bool.not_false, Nat.succ_ne_zero, List.map_cons, List.map_nil, BEq.rfl, c_agg, c_sc, c_str, c_ptr, c_elt, c_vs, c_os, c_mp, c_fn, o_sc, o_str, o_ptr, o_elt, o_vs, o_os, o_mp, o_fn, not_true_eq_false, x_reg, x_rput, p_agg, St.get_bump, St.n_bump, c_ifc, o_ifc, List.all_cons, List.all_nil, Bool.and_true, Bool.and_self, List.drop_succ_cons, List.drop_zero, List.take_succ_cons, List.take_zero, List.length_cons, List.length_nil, Nat.zero_add, Nat.add_zero, Nat.mul_one, List.cons_append, List.nil_append, St.n_push, St.n_put, get_push_eq, get_push_ne, get_put_eq, get_put_ne, w_some, Nat.le_refl, true_and, and_true, and_self, List.append_nil, b_add, b_sub, b_mul, b_quo, b_rem, b_and, b_or, b_xor, b_eql, b_neq, b_lss, b_leq, b_gtr, b_geq, Int.cast_ofNat_Int, Int.toNat_zero, Int.toNat_one, decide_true, decide_false, bne_self_eq_false, d_draw, d_nil, d_e, d_cons, d_consG, d_op, d_gtt, d_gff, d_gtf, d_gft, AOp.kind, Bool.true_and, s_gu, d_gu, zQ.down, zR.down, zS.down, zT.down, simprocAttr]
 rw [s_seq]
 refine w_fin (w_seq ?_)
 by_cases ck : m.k = 7 ∨ m.k = 9 ∨ m.k = 11
 rotate_left
 · rw [if_pos (by unfold gbad; omega)]
   have q7 : (m.k != 7) = true := by simp; omega
   have q9 : (m.k != 9) = true := by simp; omega
   have q11 : (m.k != 11) = true := by simp; omega
   simp only [mc, z0]
   simp -implicitDefEqProofs (disch := first | exact nbf rfl | exact nbt rfl | (simp only [zN.down, reduceCtorEq] <;> omega) | omega) only [q7, q9, q11, hen'.1, hen'.2, XOp.kind, AOp.kind, zU.down, simprocAttr]
   exact ⟨hb, hdb, kb.any⟩
 refine W.mono (Q := fun q => (∃ (ρ : Env), q = ((.ret : Ex), ρ, σ.bump.bump.bump) ∧ gbad m ∧ ρ 6 = .agg (mc z0) ∧ ρ 7 = .sc (.int .i64 2)) ∨ (∃ (ρ : Env), q = ((.normal : Ex), ρ, σ.bump.bump.bump) ∧ ¬ gbad m ∧ ρ 0 = .ptr r 0 ∧ ρ 4 = .agg (mc m) ∧ ρ 5 = ovl o ∧ ρ 6 = .agg (mc z0))) ?_ ?_
 · have kk : ∃ a b c, (m.k != 7) = a ∧ (m.k != 9) = b ∧ (m.k != 11) = c ∧ ((a = false) ∨ (a = true ∧ b = false) ∨ (a = true ∧ b = true ∧ c = false)) := by
    refine ⟨_, _, _, rfl, rfl, rfl, ?_⟩
    rcases ck with h | h | h <;> simp [h]
   obtain ⟨qa, qb, qc, q7, q9, q11, kk⟩ := kk
   generalize hρ0 : (upd _ _ _ : Env) = ρ0
   have f4 : ρ0 4 = .agg (mc m) := by rw [← hρ0]; simp only [mc]; simp -implicitDefEqProofs (disch := first | exact nbf rfl | exact nbt rfl | (simp only [zN.down, reduceCtorEq] <;> omega) | omega) only [XOp.kind, AOp.kind, zU.down, simprocAttr]
   have f0 : ρ0 0 = .ptr r 0 := by rw [← hρ0]; simp -implicitDefEqProofs (disch := first | exact nbf rfl | exact nbt rfl | (simp only [zN.down, reduceCtorEq] <;> omega) | omega) only [XOp.kind, AOp.kind, zU.down, simprocAttr]
   have f5 : ρ0 5 = ovl o := by rw [← hρ0, ho2]; simp -implicitDefEqProofs (disch := first | exact nbf rfl | exact nbt rfl | (simp only [zN.down, reduceCtorEq] <;> omega) | omega) only [XOp.kind, AOp.kind, zU.down, simprocAttr]
   have f6 : ρ0 6 = .agg (mc z0) := by rw [← hρ0]; simp only [mc, z0]; simp -implicitDefEqProofs (disch := first | exact nbf rfl | exact nbt rfl | (simp only [zN.down, reduceCtorEq] <;> omega) | omega) only [XOp.kind, AOp.kind, zU.down, simprocAttr]
   clear hρ0
   simp only [mc, z0] at f4 f6
   by_cases c0 : m.fr < 0
   · have d0 : decide (m.fr < 0) = true := by simpa using c0
     rcases kk with rfl | ⟨rfl, rfl⟩ | ⟨rfl, rfl, rfl⟩
     all_goals
      simp -implicitDefEqProofs (disch := first | exact nbf rfl | exact nbt rfl | (simp only [zN.down, reduceCtorEq] <;> omega) | omega) only [f0, f4, f6, q7, q9, q11, d0, XOp.kind, AOp.kind, zU.down, simprocAttr]
      refine .inl ⟨_, rfl, by unfold gbad; omega, ?_, ?_⟩
      all_goals ((try simp only [mc, z0]); simp -implicitDefEqProofs (disch := first | exact nbf rfl | exact nbt rfl | (simp only [zN.down, reduceCtorEq] <;> omega) | omega) only [XOp.kind, AOp.kind, zU.down, simprocAttr]; done)
   have d0 : decide (m.fr < 0) = false := by simpa using c0
   by_cases c1 : m.fr > 15
   · have d1 : decide (m.fr > 15) = true := by simpa using c1
     rcases kk with rfl | ⟨rfl, rfl⟩ | ⟨rfl, rfl, rfl⟩
     all_goals
      simp -implicitDefEqProofs (disch := first | exact nbf rfl | exact nbt rfl | (simp only [zN.down, reduceCtorEq] <;> omega) | omega) only [f0, f4, f6, q7, q9, q11, d0, d1, XOp.kind, AOp.kind, zU.down, simprocAttr]
      refine .inl ⟨_, rfl, by unfold gbad; omega, ?_, ?_⟩
      all_goals ((try simp only [mc, z0]); simp -implicitDefEqProofs (disch := first | exact nbf rfl | exact nbt rfl | (simp only [zN.down, reduceCtorEq] <;> omega) | omega) only [XOp.kind, AOp.kind, zU.down, simprocAttr]; done)
   have d1 : decide (m.fr > 15) = false := by simpa using c1
   by_cases c2 : m.talk < 1
   · have d2 : decide (m.talk < 1) = true := by simpa using c2
     rcases kk with rfl | ⟨rfl, rfl⟩ | ⟨rfl, rfl, rfl⟩
     all_goals
      simp -implicitDefEqProofs (disch := first | exact nbf rfl | exact nbt rfl | (simp only [zN.down, reduceCtorEq] <;> omega) | omega) only [f0, f4, f6, q7, q9, q11, d0, d1, d2, XOp.kind, AOp.kind, zU.down, simprocAttr]
      refine .inl ⟨_, rfl, by unfold gbad; omega, ?_, ?_⟩
      all_goals ((try simp only [mc, z0]); simp -implicitDefEqProofs (disch := first | exact nbf rfl | exact nbt rfl | (simp only [zN.down, reduceCtorEq] <;> omega) | omega) only [XOp.kind, AOp.kind, zU.down, simprocAttr]; done)
   have d2 : decide (m.talk < 1) = false := by simpa using c2
   by_cases c3 : m.talk > 1048576
   · have d3 : decide (m.talk > 1048576) = true := by simpa using c3
     rcases kk with rfl | ⟨rfl, rfl⟩ | ⟨rfl, rfl, rfl⟩
     all_goals
      simp -implicitDefEqProofs (disch := first | exact nbf rfl | exact nbt rfl | (simp only [zN.down, reduceCtorEq] <;> omega) | omega) only [f0, f4, f6, q7, q9, q11, d0, d1, d2, d3, XOp.kind, AOp.kind, zU.down, simprocAttr]
      refine .inl ⟨_, rfl, by unfold gbad; omega, ?_, ?_⟩
      all_goals ((try simp only [mc, z0]); simp -implicitDefEqProofs (disch := first | exact nbf rfl | exact nbt rfl | (simp only [zN.down, reduceCtorEq] <;> omega) | omega) only [XOp.kind, AOp.kind, zU.down, simprocAttr]; done)
   have d3 : decide (m.talk > 1048576) = false := by simpa using c3
   by_cases c4 : m.term < 1
   · have d4 : decide (m.term < 1) = true := by simpa using c4
     rcases kk with rfl | ⟨rfl, rfl⟩ | ⟨rfl, rfl, rfl⟩
     all_goals
      simp -implicitDefEqProofs (disch := first | exact nbf rfl | exact nbt rfl | (simp only [zN.down, reduceCtorEq] <;> omega) | omega) only [f0, f4, f6, q7, q9, q11, d0, d1, d2, d3, d4, XOp.kind, AOp.kind, zU.down, simprocAttr]
      refine .inl ⟨_, rfl, by unfold gbad; omega, ?_, ?_⟩
      all_goals ((try simp only [mc, z0]); simp -implicitDefEqProofs (disch := first | exact nbf rfl | exact nbt rfl | (simp only [zN.down, reduceCtorEq] <;> omega) | omega) only [XOp.kind, AOp.kind, zU.down, simprocAttr]; done)
   have d4 : decide (m.term < 1) = false := by simpa using c4
   by_cases c5 : m.term > 1099511627776
   · have d5 : decide (m.term > 1099511627776) = true := by simpa using c5
     rcases kk with rfl | ⟨rfl, rfl⟩ | ⟨rfl, rfl, rfl⟩
     all_goals
      simp -implicitDefEqProofs (disch := first | exact nbf rfl | exact nbt rfl | (simp only [zN.down, reduceCtorEq] <;> omega) | omega) only [f0, f4, f6, q7, q9, q11, d0, d1, d2, d3, d4, d5, XOp.kind, AOp.kind, zU.down, simprocAttr]
      refine .inl ⟨_, rfl, by unfold gbad; omega, ?_, ?_⟩
      all_goals ((try simp only [mc, z0]); simp -implicitDefEqProofs (disch := first | exact nbf rfl | exact nbt rfl | (simp only [zN.down, reduceCtorEq] <;> omega) | omega) only [XOp.kind, AOp.kind, zU.down, simprocAttr]; done)
   have d5 : decide (m.term > 1099511627776) = false := by simpa using c5
   by_cases c6 : m.ep < 1
   · have d6 : decide (m.ep < 1) = true := by simpa using c6
     rcases kk with rfl | ⟨rfl, rfl⟩ | ⟨rfl, rfl, rfl⟩
     all_goals
      simp -implicitDefEqProofs (disch := first | exact nbf rfl | exact nbt rfl | (simp only [zN.down, reduceCtorEq] <;> omega) | omega) only [f0, f4, f6, q7, q9, q11, d0, d1, d2, d3, d4, d5, d6, XOp.kind, AOp.kind, zU.down, simprocAttr]
      refine .inl ⟨_, rfl, by unfold gbad; omega, ?_, ?_⟩
      all_goals ((try simp only [mc, z0]); simp -implicitDefEqProofs (disch := first | exact nbf rfl | exact nbt rfl | (simp only [zN.down, reduceCtorEq] <;> omega) | omega) only [XOp.kind, AOp.kind, zU.down, simprocAttr]; done)
   have d6 : decide (m.ep < 1) = false := by simpa using c6
   by_cases c7 : m.ep > 1048576
   · have d7 : decide (m.ep > 1048576) = true := by simpa using c7
     rcases kk with rfl | ⟨rfl, rfl⟩ | ⟨rfl, rfl, rfl⟩
     all_goals
      simp -implicitDefEqProofs (disch := first | exact nbf rfl | exact nbt rfl | (simp only [zN.down, reduceCtorEq] <;> omega) | omega) only [f0, f4, f6, q7, q9, q11, d0, d1, d2, d3, d4, d5, d6, d7, XOp.kind, AOp.kind, zU.down, simprocAttr]
      refine .inl ⟨_, rfl, by unfold gbad; omega, ?_, ?_⟩
      all_goals ((try simp only [mc, z0]); simp -implicitDefEqProofs (disch := first | exact nbf rfl | exact nbt rfl | (simp only [zN.down, reduceCtorEq] <;> omega) | omega) only [XOp.kind, AOp.kind, zU.down, simprocAttr]; done)
   have d7 : decide (m.ep > 1048576) = false := by simpa using c7
   rcases kk with rfl | ⟨rfl, rfl⟩ | ⟨rfl, rfl, rfl⟩
   all_goals
    simp -implicitDefEqProofs (disch := first | exact nbf rfl | exact nbt rfl | (simp only [zN.down, reduceCtorEq] <;> omega) | omega) only [f0, f4, f6, q7, q9, q11, d0, d1, d2, d3, d4, d5, d6, d7, XOp.kind, AOp.kind, zU.down, simprocAttr]
    refine .inr ⟨_, rfl, by unfold gbad; omega, ?_, ?_, ?_, ?_⟩
    all_goals ((try simp only [mc, z0]); simp -implicitDefEqProofs (disch := first | exact nbf rfl | exact nbt rfl | (simp only [zN.down, reduceCtorEq] <;> omega) | omega) only [f0, f4, f5, f6, XOp.kind, AOp.kind, zU.down, simprocAttr]; done)
 rintro _ (⟨ρ, rfl, hg, e6, e7⟩ | ⟨ρ, rfl, hg, e0, e4, e5, e6⟩)
 · rw [if_pos hg]
   simp only [mc, z0] at e6 ⊢
   simp -implicitDefEqProofs (disch := first | exact nbf rfl | exact nbt rfl | (simp only [zN.down, reduceCtorEq] <;> omega) | omega) only [e6, e7, XOp.kind, AOp.kind, zU.down, simprocAttr]
   exact ⟨hb, hdb, kb.any⟩
 rw [if_neg hg]
 obtain ⟨hg1, hg2, hg3, hg4, hg5, hg6, hg7, hg8, hg9⟩ : ¬(m.k ≠ 7 ∧ m.k ≠ 9 ∧ m.k ≠ 11) ∧ ¬ m.fr < 0 ∧ ¬ m.fr > 15 ∧ ¬ m.talk < 1 ∧ ¬ m.talk > 1048576 ∧ ¬ m.term < 1 ∧ ¬ m.term > 1099511627776 ∧ ¬ m.ep < 1 ∧ ¬ m.ep > 1048576 := by unfold gbad at hg; omega
 clear hg
 have hK : IntKind.u8.wrap (m.k + 1) = m.k + 1 := by
  rcases ck with ck | ck | ck <;> rw [ck] <;> rfl
 simp only [mc, z0] at e4 e6
 simp -implicitDefEqProofs (disch := first | exact nbf rfl | exact nbt rfl | (simp only [zN.down, reduceCtorEq] <;> omega) | omega) only [e0, e4, XOp.kind, AOp.kind, zU.down, simprocAttr]
 repeat first | apply w_fin | apply w_seq | apply w_block | apply w_reg | apply w_op | apply w_dop
 refine (hri _ hb).mono ?_
 rintro ⟨_, σ2⟩ ⟨rfl, k2⟩
 dsimp only at k2
 have k2 := kb.trans k2
 generalize hG : gin m o M L jbr = G at *
 generalize gright L S m.talk = R at *
 generalize hn : taken L m.talk = n at *
 have kbb : Kept noX σ σ2.bump.bump := k2.bump.bump
 have kz : Kept noX σ σ2.bump.bump.bump.bump := kbb.bump.bump
 by_cases cf : tabv ⟨R.1, R.2, 0⟩ (tkm m)
 · have ha : ∀ σ, cy ys 32 [.agg [.sc (.int .i64 R.1), .sc (.int .i64 R.2)], .agg [.sc (.int .i64 m.term), .sc (.int .i64 m.ep)]] σ = some (.sc (.bool true), σ.bump.bump) := fun σ => by
    have := hab σ ⟨R.1, R.2, 0⟩ (tkm m)
    rw [decide_eq_true cf] at this
    exact this
   rw [if_pos cf]
   simp only [mc, z0]
   simp -implicitDefEqProofs (disch := first | exact nbf rfl | exact nbt rfl | (simp only [zN.down, reduceCtorEq] <;> omega) | omega) only [e0, e4, e6, hK, ha, hen'.1, hen'.2, XOp.kind, AOp.kind, zU.down, simprocAttr]
   exact ⟨h.kept0 kz, hd.kept kz (fun h => h), kz.any⟩
 have ha : ∀ σ, cy ys 32 [.agg [.sc (.int .i64 R.1), .sc (.int .i64 R.2)], .agg [.sc (.int .i64 m.term), .sc (.int .i64 m.ep)]] σ = some (.sc (.bool false), σ.bump.bump) := fun σ => by
   have := hab σ ⟨R.1, R.2, 0⟩ (tkm m)
   rw [decide_eq_false cf] at this
   exact this
 rw [if_neg cf]
 have hz := h.kept0 kz
 have hdz := hd.kept kz (fun h => h)
 simp -implicitDefEqProofs (disch := first | exact nbf rfl | exact nbt rfl | (simp only [zN.down, reduceCtorEq] <;> omega) | omega) only [e0, e4, e6, hK, ha, hen'.1, hen'.2, XOp.kind, s_nil, s_cons, s_consG, s_op, s_gtt, s_gff, s_gtf, s_gft, s_region, s_reg, s_seqn, s_seqr, s_seqe, s_skip, s_ret, s_exit, s_cond, s_condt, s_condf, s_block, s_blockn, s_blockr, s_blocke, s_finr, s_finn, Option.map_some, Option.map_none, upd_o, upd_s, ne_eq, not_false_eq_true, List.getElem?_cons_zero, List.getElem?_cons_succ, Option.getD_some, Bool.false_eq_true, if_false, if_true, List.mapM_cons, List.mapM_nil, Option.bind_eq_bind, Option.bind_some, Option.pure_def, beq_tt, beq_tf, beq_ft, beq_ff, Bool.not_true, Bool.not_false, Nat.succ_ne_zero, List.map_cons, List.map_nil, BEq.rfl, c_agg, c_sc, c_str, c_ptr, c_elt, c_vs, c_os, c_mp, c_fn, o_sc, o_str, o_ptr, o_elt, o_vs, o_os, o_mp, o_fn, not_true_eq_false, x_reg, x_rput, p_agg, St.get_bump, St.n_bump, c_ifc, o_ifc, List.all_cons, List.all_nil, Bool.and_true, Bool.and_self, List.drop_succ_cons, List.drop_zero, List.take_succ_cons, List.take_zero, List.length_cons, List.length_nil, Nat.zero_add, Nat.add_zero, Nat.mul_one, List.cons_append, List.nil_append, St.n_push, St.n_put, get_push_eq, get_push_ne, get_put_eq, get_put_ne, w_some, Nat.le_refl, true_and, and_true, and_self, List.append_nil, b_add, b_sub, b_mul, b_quo, b_rem, b_and, b_or, b_xor, b_eql, b_neq, b_lss, b_leq, b_gtr, b_geq, Int.cast_ofNat_Int, Int.toNat_zero, Int.toNat_one, decide_true, decide_false, bne_self_eq_false, d_draw, d_nil, d_e, d_cons, d_consG, d_op, d_gtt, d_gff, d_gtf, d_gft, AOp.kind, Bool.true_and, s_gu, d_gu, zQ.down, zR.down, zS.down, zT.down, simprocAttr]
 rw [s_seq]
 simp -implicitDefEqProofs (disch := first | exact nbf rfl | exact nbt rfl | (simp only [zN.down, reduceCtorEq] <;> omega) | omega) only [e0, e4, e6, hK, ha, hen'.1, hen'.2, XOp.kind, s_nil, s_cons, s_consG, s_op, s_gtt, s_gff, s_gtf, s_gft, s_region, s_reg, s_seqn, s_seqr, s_seqe, s_skip, s_ret, s_exit, s_cond, s_condt, s_condf, s_block, s_blockn, s_blockr, s_blocke, s_finr, s_finn, Option.map_some, Option.map_none, upd_o, upd_s, ne_eq, not_false_eq_true, List.getElem?_cons_zero, List.getElem?_cons_succ, Option.getD_some, Bool.false_eq_true, if_false, if_true, List.mapM_cons, List.mapM_nil, Option.bind_eq_bind, Option.bind_some, Option.pure_def, beq_tt, beq_tf, beq_ft, beq_ff, Bool.not_true, Bool.not_false, Nat.succ_ne_zero, List.map_cons, List.map_nil, BEq.rfl, c_agg, c_sc, c_str, c_ptr, c_elt, c_vs, c_os, c_mp, c_fn, o_sc, o_str, o_ptr, o_elt, o_vs, o_os, o_mp, o_fn, not_true_eq_false, x_reg, x_rput, p_agg, St.get_bump, St.n_bump, c_ifc, o_ifc, List.all_cons, List.all_nil, Bool.and_true, Bool.and_self, List.drop_succ_cons, List.drop_zero, List.take_succ_cons, List.take_zero, List.length_cons, List.length_nil, Nat.zero_add, Nat.add_zero, Nat.mul_one, List.cons_append, List.nil_append, St.n_push, St.n_put, get_push_eq, get_push_ne, get_put_eq, get_put_ne, w_some, Nat.le_refl, true_and, and_true, and_self, List.append_nil, b_add, b_sub, b_mul, b_quo, b_rem, b_and, b_or, b_xor, b_eql, b_neq, b_lss, b_leq, b_gtr, b_geq, Int.cast_ofNat_Int, Int.toNat_zero, Int.toNat_one, decide_true, decide_false, bne_self_eq_false, d_draw, d_nil, d_e, d_cons, d_consG, d_op, d_gtt, d_gff, d_gtf, d_gft, AOp.kind, Bool.true_and, s_gu, d_gu, zQ.down, zR.down, zS.down, zT.down, simprocAttr]
 rw [s_seq, s_seq]
 simp -implicitDefEqProofs (disch := first | exact nbf rfl | exact nbt rfl | (simp only [zN.down, reduceCtorEq] <;> omega) | omega) only [e0, e4, e6, hK, ha, hen'.1, hen'.2, XOp.kind, s_nil, s_cons, s_consG, s_op, s_gtt, s_gff, s_gtf, s_gft, s_region, s_reg, s_seqn, s_seqr, s_seqe, s_skip, s_ret, s_exit, s_cond, s_condt, s_condf, s_block, s_blockn, s_blockr, s_blocke, s_finr, s_finn, Option.map_some, Option.map_none, upd_o, upd_s, ne_eq, not_false_eq_true, List.getElem?_cons_zero, List.getElem?_cons_succ, Option.getD_some, Bool.false_eq_true, if_false, if_true, List.mapM_cons, List.mapM_nil, Option.bind_eq_bind, Option.bind_some, Option.pure_def, beq_tt, beq_tf, beq_ft, beq_ff, Bool.not_true, Bool.not_false, Nat.succ_ne_zero, List.map_cons, List.map_nil, BEq.rfl, c_agg, c_sc, c_str, c_ptr, c_elt, c_vs, c_os, c_mp, c_fn, o_sc, o_str, o_ptr, o_elt, o_vs, o_os, o_mp, o_fn, not_true_eq_false, x_reg, x_rput, p_agg, St.get_bump, St.n_bump, c_ifc, o_ifc, List.all_cons, List.all_nil, Bool.and_true, Bool.and_self, List.drop_succ_cons, List.drop_zero, List.take_succ_cons, List.take_zero, List.length_cons, List.length_nil, Nat.zero_add, Nat.add_zero, Nat.mul_one, List.cons_append, List.nil_append, St.n_push, St.n_put, get_push_eq, get_push_ne, get_put_eq, get_put_ne, w_some, Nat.le_refl, true_and, and_true, and_self, List.append_nil, b_add, b_sub, b_mul, b_quo, b_rem, b_and, b_or, b_xor, b_eql, b_neq, b_lss, b_leq, b_gtr, b_geq, Int.cast_ofNat_Int, Int.toNat_zero, Int.toNat_one, decide_true, decide_false, bne_self_eq_false, d_draw, d_nil, d_e, d_cons, d_consG, d_op, d_gtt, d_gff, d_gtf, d_gft, AOp.kind, Bool.true_and, s_gu, d_gu, zQ.down, zR.down, zS.down, zT.down, simprocAttr]
 rw [s_seq]
 refine w_seq ?_
 rw [ho2] at e5
 have hmc : ansr m G = { z0 with k := m.k + 1, fr := 3, to' := m.fr, talk := m.talk, term := m.term, ep := m.ep, seq := G.a.seq, at' := G.a.at', tot := G.a.tot, dat := G.a.dat, er := G.a.er } := rfl
 refine W.mono (Q := fun q => (∃ (ρ' : Env) (σ' : St), q = ((.normal : Ex), ρ', σ') ∧ G.e = 0 ∧ ρ' 0 = .ptr r 0 ∧ ρ' 4 = .agg (mc m) ∧ ρ' 6 = .agg (mc z0) ∧ ρ' 10 = .agg (mc (ansr m G)) ∧ GD σ' r rj w G.L G.jbr S 0 ∧ dk.RR σ' w G.M ∧ Kept (fun o => o = w ∨ o = rj ∨ o = r) σ σ') ∨ (∃ (ρ' : Env) (σ' : St), q = ((.ret : Ex), ρ', σ') ∧ G.e ≠ 0 ∧ ρ' 6 = .agg (mc z0) ∧ ρ' 7 = .sc (.int .i64 G.e) ∧ GD σ' r rj w G.L G.jbr S G.e ∧ dk.RR σ' w G.M ∧ Kept (fun o => o = w ∨ o = rj ∨ o = r) σ σ')) ?_ ?_
 · unfold gin at hG
   rw [hn] at hG
   rcases ck with h7 | h9 | h11
   · have q7 : (m.k == 7) = true := by simp [h7]
     rw [if_pos h7] at hG
     subst hG
     simp -implicitDefEqProofs (disch := first | exact nbf rfl | exact nbt rfl | (simp only [zN.down, reduceCtorEq] <;> omega) | omega) only [e0, e4, e5, e6, hob, q7, XOp.kind, AOp.kind, zU.down, simprocAttr]
     refine .inl ⟨_, _, rfl, ?_, ?_, ?_, ?_, hz, hdz, kz.any⟩
     all_goals ((try simp only [mc, z0, ansr]); simp -implicitDefEqProofs (disch := first | exact nbf rfl | exact nbt rfl | (simp only [zN.down, reduceCtorEq] <;> omega) | omega) only [e0, e4, e6, XOp.kind, AOp.kind, zU.down, simprocAttr]; done)
   · have q7 : (m.k == 7) = false := by simp [h9]
     have q9 : (m.k == 9) = true := by simp [h9]
     rw [if_neg (show ¬ m.k = 7 by omega), if_neg (show ¬ m.k = 11 by omega)] at hG
     have hnb := tnx_b hc m.talk
     have hn' : n = (tnx L m.talk).n - 1 := hn.symm
     have w1 : IntKind.i64.wrap (n + 1) = n + 1 := wrap64 (by omega) (by omega)
     by_cases c1 : m.dat.length > 64
     · have d1 : decide ((m.dat.length : Int) > 64) = true := by simp; omega
       rw [if_pos c1] at hG
       subst hG
       simp -implicitDefEqProofs (disch := first | exact nbf rfl | exact nbt rfl | (simp only [zN.down, reduceCtorEq] <;> omega) | omega) only [e0, e4, e5, e6, q7, q9, d1, XOp.kind, AOp.kind, zU.down, simprocAttr]
       refine .inl ⟨_, _, rfl, ?_, ?_, ?_, ?_, hz, hdz, kz.any⟩
       all_goals ((try simp only [mc, z0, ansr]); simp -implicitDefEqProofs (disch := first | exact nbf rfl | exact nbt rfl | (simp only [zN.down, reduceCtorEq] <;> omega) | omega) only [e0, e4, e6, XOp.kind, AOp.kind, zU.down, simprocAttr]; done)
     have d1 : decide ((m.dat.length : Int) > 64) = false := by simp; omega
     rw [if_neg c1] at hG
     by_cases c2 : 1 ≤ m.seq ∧ m.seq ≤ n
     · have d2 : decide (m.seq ≥ 1) = true := by simpa using c2.1
       have d3 : decide (m.seq ≤ n) = true := by simpa using c2.2
       rw [if_pos c2] at hG
       subst hG
       simp -implicitDefEqProofs (disch := first | exact nbf rfl | exact nbt rfl | (simp only [zN.down, reduceCtorEq] <;> omega) | omega) only [e0, e4, e5, e6, q7, q9, d1, d2, d3, XOp.kind, AOp.kind, zU.down, simprocAttr]
       refine .inl ⟨_, _, rfl, ?_, ?_, ?_, ?_, hz, hdz, kz.any⟩
       all_goals ((try simp only [mc, z0, ansr]); simp -implicitDefEqProofs (disch := first | exact nbf rfl | exact nbt rfl | (simp only [zN.down, reduceCtorEq] <;> omega) | omega) only [e0, e4, e6, XOp.kind, AOp.kind, zU.down, simprocAttr]; done)
     rw [if_neg c2] at hG
     by_cases c3 : m.seq = n + 1
     rotate_left
     · have d4 : (m.seq != n + 1) = true := by simp [c3]
       rw [if_pos c3] at hG
       subst hG
       by_cases c4 : m.seq ≥ 1
       · have d2 : decide (m.seq ≥ 1) = true := by simpa using c4
         have d3 : decide (m.seq ≤ n) = false := by simp only [decide_eq_false_iff_not]; omega
         simp -implicitDefEqProofs (disch := first | exact nbf rfl | exact nbt rfl | (simp only [zN.down, reduceCtorEq] <;> omega) | omega) only [e0, e4, e5, e6, q7, q9, d1, d2, d3, d4, w1, XOp.kind, AOp.kind, zU.down, simprocAttr]
         refine .inl ⟨_, _, rfl, ?_, ?_, ?_, ?_, hz, hdz, kz.any⟩
         all_goals ((try simp only [mc, z0, ansr]); simp -implicitDefEqProofs (disch := first | exact nbf rfl | exact nbt rfl | (simp only [zN.down, reduceCtorEq] <;> omega) | omega) only [e0, e4, e6, XOp.kind, AOp.kind, zU.down, simprocAttr]; done)
       · have d2 : decide (m.seq ≥ 1) = false := by simp only [decide_eq_false_iff_not]; omega
         simp -implicitDefEqProofs (disch := first | exact nbf rfl | exact nbt rfl | (simp only [zN.down, reduceCtorEq] <;> omega) | omega) only [e0, e4, e5, e6, q7, q9, d1, d2, d4, w1, XOp.kind, AOp.kind, zU.down, simprocAttr]
         refine .inl ⟨_, _, rfl, ?_, ?_, ?_, ?_, hz, hdz, kz.any⟩
         all_goals ((try simp only [mc, z0, ansr]); simp -implicitDefEqProofs (disch := first | exact nbf rfl | exact nbt rfl | (simp only [zN.down, reduceCtorEq] <;> omega) | omega) only [e0, e4, e6, XOp.kind, AOp.kind, zU.down, simprocAttr]; done)
     have d4 : (m.seq != n + 1) = false := by simp [c3]
     rw [if_neg (by simp [c3])] at hG
     have d2 : decide (m.seq ≥ 1) = true := by simp; omega
     have d3 : decide (m.seq ≤ n) = false := by simp; omega
     have f1 := hadd _ hz.j hdz
     have hq : jadd M L jbr (tkm m) = jadd M L jbr ⟨m.talk, m.term, m.ep, m.seq, m.dat⟩ := rfl
     rw [hq] at f1 hG
     simp only [tkc, tkm] at f1
     generalize jadd M L jbr ⟨m.talk, m.term, m.ep, m.seq, m.dat⟩ = Q at *
     have gz := kz.get _ _ (fun h => h) g
     subst hG
     simp -implicitDefEqProofs (disch := first | exact nbf rfl | exact nbt rfl | (simp only [zN.down, reduceCtorEq] <;> omega) | omega) only [e0, e4, e5, e6, q7, q9, d1, d2, d3, d4, w1, gz, XOp.kind, AOp.kind, zU.down, simprocAttr]
     repeat first | apply w_fin | apply w_seq | apply w_block | apply w_reg | apply w_op | apply w_dop
     refine f1.mono ?_
     rintro ⟨_, σ5⟩ ⟨rfl, hj5, hd5, k5⟩
     dsimp only at hj5 hd5 k5
     have kx : Kept (fun o => o = w ∨ o = rj ∨ o = r) σ σ5 := kz.any.trans (k5.sub fun o h => by rcases h with h | h; exact .inl h; exact .inr (.inl h))
     have g5 := k5.get _ _ (by omega) gz
     have lg5 := St.get_lt g5
     by_cases ce : Q.2.2.2 = 0
     · have de : (Q.2.2.2 != 0) = false := by simp [ce]
       simp -implicitDefEqProofs (disch := first | exact nbf rfl | exact nbt rfl | (simp only [zN.down, reduceCtorEq] <;> omega) | omega) only [e0, e4, e6, de, XOp.kind, AOp.kind, zU.down, simprocAttr]
       refine .inl ⟨_, _, rfl, ce, ?_, ?_, ?_, ?_, ⟨⟨sv, g5, hs⟩, hj5⟩, hd5, kx⟩
       all_goals ((try simp only [mc, z0, ansr]); simp -implicitDefEqProofs (disch := first | exact nbf rfl | exact nbt rfl | (simp only [zN.down, reduceCtorEq] <;> omega) | omega) only [e0, e4, e6, XOp.kind, AOp.kind, zU.down, simprocAttr]; done)
     · have de : (Q.2.2.2 != 0) = true := by simpa using ce
       simp -implicitDefEqProofs (disch := first | exact nbf rfl | exact nbt rfl | (simp only [zN.down, reduceCtorEq] <;> omega) | omega) only [e0, e4, e6, de, g5, XOp.kind, AOp.kind, zU.down, simprocAttr]
       have kk : Kept (· = r) σ5 (σ5.put r (some (.cells [.ptr rj 0, sv, .sc (.int .i64 Q.2.2.2)]))) := Kept.put (X := (· = r)) (Kept.refl _ _) (.inl rfl) lg5 _
       refine .inr ⟨_, _, rfl, ce, ?_, ?_, ⟨⟨sv, get_put_self g5, hs⟩, hj5.kept kk hne.2.2⟩, hd5.kept kk (fun h => hne.2.1 h.symm), kx.trans (kk.sub fun o h => .inr (.inr h))⟩
       all_goals ((try simp only [mc, z0, ansr]); simp -implicitDefEqProofs (disch := first | exact nbf rfl | exact nbt rfl | (simp only [zN.down, reduceCtorEq] <;> omega) | omega) only [e0, e4, e6, XOp.kind, AOp.kind, zU.down, simprocAttr]; done)
   · have q7 : (m.k == 7) = false := by simp [h11]
     have q9 : (m.k == 9) = false := by simp [h11]
     have q11 : (m.k == 11) = true := by simp [h11]
     rw [if_neg (show ¬ m.k = 7 by omega), if_pos h11] at hG
     subst hG
     simp -implicitDefEqProofs (disch := first | exact nbf rfl | exact nbt rfl | (simp only [zN.down, reduceCtorEq] <;> omega) | omega) only [e0, e4, e5, e6, hob, hpu, q7, q9, q11, XOp.kind, AOp.kind, zU.down, simprocAttr]
     refine .inl ⟨_, _, rfl, ?_, ?_, ?_, ?_, h.kept0 kz.bump, hd.kept kz.bump (fun h => h), kz.bump.any⟩
     all_goals ((try simp only [mc, z0, ansr]); simp -implicitDefEqProofs (disch := first | exact nbf rfl | exact nbt rfl | (simp only [zN.down, reduceCtorEq] <;> omega) | omega) only [e0, e4, e6, XOp.kind, AOp.kind, zU.down, simprocAttr]; done)
 clear hz hdz e0 e4 e5 e6
 rintro _ (⟨ρ, σ5, rfl, ce, e0, e4, e6, e10, hg5, hd5, k5⟩ | ⟨ρ, σ5, rfl, ce, e6, e7, hg5, hd5, k5⟩)
 · rw [if_neg (by simp [ce])]
   have f1 := hse σ5 G.L G.jbr m.talk m.term m.ep hg5
   simp only [mc, z0, ansr] at e4 e6 e10
   simp -implicitDefEqProofs (disch := first | exact nbf rfl | exact nbt rfl | (simp only [zN.down, reduceCtorEq] <;> omega) | omega) only [e0, e4, XOp.kind, AOp.kind, zU.down, simprocAttr]
   repeat first | apply w_fin | apply w_seq | apply w_block | apply w_reg | apply w_op | apply w_dop
   refine f1.mono ?_
   rintro ⟨_, σ6⟩ ⟨hg6, k6⟩
   dsimp only at hg6 k6
   simp only [mc, z0]
   simp -implicitDefEqProofs (disch := first | exact nbf rfl | exact nbt rfl | (simp only [zN.down, reduceCtorEq] <;> omega) | omega) only [e6, e10, XOp.kind, AOp.kind, zU.down, simprocAttr]
   exact ⟨hg6, hd5.kept k6 (fun h => hne.2.1 h.symm), k5.trans (k6.sub fun o h => .inr (.inr h))⟩
 · rw [if_pos ce]
   simp only [mc, z0] at e6 ⊢
   simp -implicitDefEqProofs (disch := first | exact nbf rfl | exact nbt rfl | (simp only [zN.down, reduceCtorEq] <;> omega) | omega) only [e6, e7, XOp.kind, AOp.kind, zU.down, simprocAttr]
   exact ⟨hg5, hd5, k5⟩
end Go.Proofs.YtehdjkikcfeiaaaGreat.jn
namespace Go.Proofs.YtehdjkikcfeiaaaGreat.jn
open Go.Ab fr dk rg
set_option maxRecDepth 100000
set_option maxHeartbeats 8000000
set_option linter.unusedSimpArgs false
set_option linter.unusedVariables false
theorem eqb (σ : St) (a b : Bool) : aEqV σ .bool (.sc (.bool a)) (.sc (.bool b)) = some (a == b) := by simp [aEqV, aEqBool]
def nmi (m : Ms) : List Int := [m.fr, m.to', m.te, m.ix, m.lt, m.co, m.st, m.at', m.tot, m.talk, m.term, m.ep, m.seq, m.cl, m.rq]
theorem numbers_ok (k : Nat) (ys : YlF) (σ : St) (m : Ms) (h : m.en = .sc .nilS) : callY Tab.tb (k + 1) ys 36 [.agg (mc m)] σ = some (.vs .exact 1 15 ((nmi m).map kc).flatten, σ.bump) := by
 rw [s_call (af := Tab.b36) rfl (Nat.le_of_ble_eq_true rfl)]
 generalize callY Tab.tb k = cy
 have bs : ∀ a b c d e f g h i j k l m n o : Int, aBslice 1 15 [.sc (.int .i64 0)] [(0, 1, .sc (.int .i64 a)), (1, 1, .sc (.int .i64 b)), (2, 1, .sc (.int .i64 c)), (3, 1, .sc (.int .i64 d)), (4, 1, .sc (.int .i64 e)), (5, 1, .sc (.int .i64 f)), (6, 1, .sc (.int .i64 g)), (7, 1, .sc (.int .i64 h)), (8, 1, .sc (.int .i64 i)), (9, 1, .sc (.int .i64 j)), (10, 1, .sc (.int .i64 k)), (11, 1, .sc (.int .i64 l)), (12, 1, .sc (.int .i64 m)), (13, 1, .sc (.int .i64 n)), (14, 1, .sc (.int .i64 o))] = some (.vs .exact 1 15 [.sc (.int .i64 a), .sc (.int .i64 b), .sc (.int .i64 c), .sc (.int .i64 d), .sc (.int .i64 e), .sc (.int .i64 f), .sc (.int .i64 g), .sc (.int .i64 h), .sc (.int .i64 i), .sc (.int .i64 j), .sc (.int .i64 k), .sc (.int .i64 l), .sc (.int .i64 m), .sc (.int .i64 n), .sc (.int .i64 o)]) := by
  intros
  simp [aBslice, zeros, fillV, V.cellsOf, splice, List.replicate]
 simp only [mc, h, nmi, kc]
 simp -implicitDefEqProofs (disch := first | exact nbf rfl | exact nbt rfl | (simp only [zN.down, reduceCtorEq] <;> omega) | omega) only [Tab.b36, bs, XOp.kind, AOp.kind, zU.down, simprocAttr]
 rfl
theorem same17_ok (k : Nat) (ys : YlF) (σ : St) (m : Ms) (h : m.en = .sc .nilS) (hk : 100 ≤ k) :
  W (callY Tab.tb (k + 2) ys 12 [.agg (mc m), .agg (mc m)] σ) fun r => r.1 = .sc (.bool true) ∧ Kept noX σ r.2 := by
 rw [s_call (af := Tab.b12) rfl (Nat.le_of_ble_eq_true rfl)]
 have hnu := fun σ => numbers_ok k ys σ m h
 generalize callY Tab.tb (k + 1) = cy at hnu ⊢
 have hrv : RV 1 (.vs .exact 1 15 ((nmi m).map kc).flatten) ((nmi m).map kc) := RV.vs (own := .exact) (sz := 1) (es := (nmi m).map kc) (by simp [kc]) (by simp [kc, V.oneCell])
 have hl : (nmi m).length = 15 := rfl
 have hlen := hrv.len
 have hsize := hrv.size
 rw [List.length_map, hl] at hlen
 have hvc := hrv.cell
 generalize (V.vs .exact 1 15 ((nmi m).map kc).flatten) = v at *
 simp only [mc, h] at hnu ⊢
 have ln : aLen (.sc .nilS) = some (.sc (.int .i64 0)) := rfl
 have hne2 : ∀ a : Int, (a != a) = false := fun a => by simp
 have bb : ∀ a : Bool, (a == a) = true := fun a => by simp
 have bne : ∀ s : List UInt8, aBin .neq (.str s) (.str s) = some (.sc (.bool false)) := fun s => by simp [aBin, aStr]
 simp -implicitDefEqProofs (disch := first | exact nbf rfl | exact nbt rfl | (simp only [zN.down, reduceCtorEq] <;> omega) | omega) only [Tab.b12, hnu, XOp.kind, AOp.kind, zU.down, simprocAttr]
 repeat first | apply w_fin | apply w_seq | apply w_block | apply w_reg | apply w_op | apply w_dop
 refine W.mono (Q := fun r => ∃ (ρ : Env) (σ' : St), r = ((.exit 0 : Ex), ρ, σ') ∧ ρ 2 = .agg (mc m) ∧ ρ 3 = .agg (mc m) ∧ Kept noX σ σ') ?_ ?_
 · refine w_loop (fun n ρ σ' => ∃ i : Nat, n = 15 - i ∧ i ≤ 15 ∧ ρ 2 = .agg (mc m) ∧ ρ 3 = .agg (mc m) ∧ ρ 5 = v ∧ ρ 6 = v ∧ ρ 7 = .sc (.int .i64 i) ∧ Kept noX σ σ') 15 (by omega) ?_ ?_
   · refine ⟨0, rfl, Nat.zero_le _, ?_, ?_, ?_, ?_, ?_, by ((repeat (first | refine Kept.push ?_ _ | refine Kept.bump ?_ | refine Kept.put ?_ (.inr (by omega)) (by first | omega | (simp only [St.n_put, St.n_push]; omega)) _)); first | exact Kept.refl _ _ | assumption)⟩
     all_goals first | rfl | (simp -implicitDefEqProofs (disch := first | exact nbf rfl | exact nbt rfl | (simp only [zN.down, reduceCtorEq] <;> omega) | omega) only [XOp.kind, AOp.kind, zU.down, simprocAttr]; done) | (simp -implicitDefEqProofs (disch := first | exact nbf rfl | exact nbt rfl | (simp only [zN.down, reduceCtorEq] <;> omega) | omega) only [XOp.kind, AOp.kind, zU.down, simprocAttr]; rfl) | (simp only [mc, h]; simp -implicitDefEqProofs (disch := first | exact nbf rfl | exact nbt rfl | (simp only [zN.down, reduceCtorEq] <;> omega) | omega) only [XOp.kind, AOp.kind, zU.down, simprocAttr]; done)
   · rintro n ρ σ' ⟨i, hn, hi, e2, e3, e5, e6, e7, kp⟩
     by_cases hil : i < 15
     · have c1 : decide ((i : Int) < 15) = true := by simp; omega
       have hi2 : i < ((nmi m).map kc).length := by rw [List.length_map, hl]; exact hil
       obtain ⟨a1, _, _⟩ := hrv.at hi2
       have c0 := hrv.cellAt (j := 0) hi2 (by omega)
       rw [List.getElem_map] at c0
       simp only [kc, List.getElem?_cons_zero] at c0
       simp only [Nat.mul_one, Nat.add_zero] at a1 c0
       generalize (nmi m)[i]'_ = z at c0
       have w1 : IntKind.i64.wrap ((i : Int) + 1) = ((i + 1 : Nat) : Int) := wrap64 (by omega) (by omega)
       simp -implicitDefEqProofs (disch := first | exact nbf rfl | exact nbt rfl | (simp only [zN.down, reduceCtorEq] <;> omega) | omega) only [c1, e2, e3, e5, e6, e7, hlen, hsize, a1, c0, hne2, w1, XOp.kind, AOp.kind, zU.down, simprocAttr]
       exact ⟨15 - (i + 1), by omega, i + 1, rfl, hil, rfl, kp⟩
     · have c1 : decide ((i : Int) < 15) = false := by simp; omega
       simp -implicitDefEqProofs (disch := first | exact nbf rfl | exact nbt rfl | (simp only [zN.down, reduceCtorEq] <;> omega) | omega) only [c1, e5, e7, hlen, XOp.kind, AOp.kind, zU.down, simprocAttr]
       refine ⟨_, _, rfl, ?_, ?_, kp⟩
       all_goals (simp -implicitDefEqProofs (disch := first | exact nbf rfl | exact nbt rfl | (simp only [zN.down, reduceCtorEq] <;> omega) | omega) only [e2, e3, XOp.kind, AOp.kind, zU.down, simprocAttr]; done)
 · rintro _ ⟨ρ, σ', rfl, e2, e3, kp⟩
   simp only [mc, h] at e2 e3
   simp -implicitDefEqProofs (disch := first | exact nbf rfl | exact nbt rfl | (simp only [zN.down, reduceCtorEq] <;> omega) | omega) only [e2, e3, hne2, eqb, bb, bne, ln, XOp.kind, aArrAddr, AOp.kind, zP.down, zQ.down, zR.down, zS.down, simprocAttr]
   repeat first | apply w_fin | apply w_seq | apply w_block | apply w_reg | apply w_op | apply w_dop
   refine W.mono (Q := fun r => ∃ (ρ : Env), r = ((.exit 2 : Ex), ρ, σ')) ?_ ?_
   · refine w_loop (fun n ρ σ2 => n = 0 ∧ σ2 = σ' ∧ ρ 2 = .agg (mc m) ∧ ρ 8 = .sc (.int .i64 0)) 0 (by omega) ?_ ?_
     · refine ⟨rfl, rfl, ?_, ?_⟩
       all_goals first | rfl | (simp -implicitDefEqProofs (disch := first | exact nbf rfl | exact nbt rfl | (simp only [zN.down, reduceCtorEq] <;> omega) | omega) only [XOp.kind, AOp.kind, zU.down, simprocAttr]; done) | (simp only [mc, h]; simp -implicitDefEqProofs (disch := first | exact nbf rfl | exact nbt rfl | (simp only [zN.down, reduceCtorEq] <;> omega) | omega) only [e2, XOp.kind, AOp.kind, zU.down, simprocAttr]; done)
     · rintro n ρ _ ⟨hn, rfl, e2, e8⟩
       simp only [mc, h] at e2
       simp -implicitDefEqProofs (disch := first | exact nbf rfl | exact nbt rfl | (simp only [zN.down, reduceCtorEq] <;> omega) | omega) only [e2, e8, ln, XOp.kind, AOp.kind, zU.down, simprocAttr]
       exact ⟨_, rfl⟩
   · rintro _ ⟨ρ, rfl⟩
     simp -implicitDefEqProofs (disch := first | exact nbf rfl | exact nbt rfl | (simp only [zN.down, reduceCtorEq] <;> omega) | omega) only [XOp.kind, AOp.kind, zU.down, simprocAttr]
     exact kp
end Go.Proofs.YtehdjkikcfeiaaaGreat.jn
