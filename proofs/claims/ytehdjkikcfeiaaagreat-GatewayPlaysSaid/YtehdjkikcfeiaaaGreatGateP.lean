/- Gateways: opened, gone over; scripts. Two rings, and what the document holds of them. GatewayPlays: what stands between two steps. GatewayPlays: its run. -/
import Derived.Test.YtehdjkikcfeiaaaGreatGateU
import Derived.Test.YtehdjkikcfeiaaaGreatGateD
import Derived.KernelRfl
namespace Go.Proofs.YtehdjkikcfeiaaaGreat.jn
open Go.Ab fr dk rg
set_option maxRecDepth 100000
set_option maxHeartbeats 8000000
set_option linter.unusedSimpArgs false
set_option linter.unusedVariables false
theorem gopen_ok (k : Nat) (ys : YlF) (σ : St) (d : Nat) (M : DM) (h : DR σ d M) {B : Nat} (hm : M.Ok B) (hB : B ≤ 999000) (hk : 2100000 ≤ k) :
  W (callY Tab.tb (k + 7) ys 8 [.ptr d 0] σ) fun r => ∃ g jb, r.1 = .tup [if (jopen M).2.2 = 0 then .ptr g 0 else .sc .nilP, .sc (.int .i64 (jopen M).2.2)] ∧ ((jopen M).2.2 = 0 → GR r.2 g jb d (jopen M).2.1 0 [] 0 ∧ σ.n ≤ jb ∧ jb < g) ∧ DR r.2 d (jopen M).1 ∧ Kept (· = d) σ r.2 := by
 rw [s_call (af := Tab.b8) rfl (Nat.le_of_ble_eq_true rfl)]
 have ho := open_ok k ys σ d M h hm hB hk
 generalize callY Tab.tb (k + 6) = cy at ho ⊢
 have xmk : ∀ σ, XOp.run σ .mkmap [] = some (.mp σ.n, σ.push (.map [] 0)) := fun _ => rfl
 simp -implicitDefEqProofs (disch := first | exact nbf rfl | exact nbt rfl | (simp only [zN.down, reduceCtorEq] <;> omega) | omega) only [Tab.b8, XOp.kind, AOp.kind, zU.down, simprocAttr]
 repeat first | apply w_fin | apply w_seq | apply w_block | apply w_reg | apply w_op | apply w_dop
 refine ho.mono ?_
 rintro ⟨_, σ1⟩ ⟨b, rfl, hj, hd, k1⟩
 dsimp only at hj hd k1
 generalize jopen M = O at *
 by_cases hz : O.2.2 = 0
 · obtain ⟨hj, hb⟩ := hj hz
   have d1 : (O.2.2 != 0) = false := by simp [hz]
   rw [if_pos hz]
   simp -implicitDefEqProofs (disch := first | exact nbf rfl | exact nbt rfl | (simp only [zN.down, reduceCtorEq] <;> omega) | omega) only [d1, xmk, XOp.kind, AOp.kind, zU.down, simprocAttr]
   have k2 : Kept noX σ1 ((σ1.push (.map [] 0)).push (.cells [.ptr b 0, .mp σ1.n, .sc (.int .i64 0)])) := ((Kept.refl _ _).push _).push _
   refine ⟨σ1.n + 1, b, by rw [if_pos hz, hz], fun _ => ⟨⟨⟨σ1.n, get_push_eq (by simp), ⟨[], 0, get_push_lt get_push_self, fun _ => rfl⟩⟩, hj.kept k2 (fun h => h)⟩, hb, by have := hj.lt; omega⟩, hd.kept k2 (fun h => h), k1.trans k2.any⟩
 · have d1 : (O.2.2 != 0) = true := by simp [hz]
   rw [if_neg hz]
   simp -implicitDefEqProofs (disch := first | exact nbf rfl | exact nbt rfl | (simp only [zN.down, reduceCtorEq] <;> omega) | omega) only [d1, XOp.kind, AOp.kind, zU.down, simprocAttr]
   exact ⟨0, 0, by rw [if_neg hz], fun h => absurd h hz, hd, k1⟩
theorem rgopen_ok (k : Nat) (ys : YlF) (σ : St) (d : Nat) (M : DM) (h : dk.RR σ d M) {B : Nat} (hm : M.Ok B) (hB : B ≤ 999000) (hk : 3300000 ≤ k) :
  W (callY Tab.tb (k + 8) ys 9 [.ptr d 0] σ) fun r => ∃ g jb, r.1 = .tup [if (jopen M).2.2 = 0 then .ptr g 0 else .sc .nilP, .sc (.int .i64 (jopen M).2.2)] ∧ ((jopen M).2.2 = 0 → GD r.2 g jb d (jopen M).2.1 0 [] 0 ∧ σ.n ≤ jb ∧ jb < g) ∧ dk.RR r.2 d (jopen M).1 ∧ Kept (· = d) σ r.2 := by
 rw [s_call (af := Tab.b9) rfl (Nat.le_of_ble_eq_true rfl)]
 have ho := ropen_ok k ys σ d M h hm hB hk
 generalize callY Tab.tb (k + 7) = cy at ho ⊢
 simp -implicitDefEqProofs (disch := first | exact nbf rfl | exact nbt rfl | (simp only [zN.down, reduceCtorEq] <;> omega) | omega) only [Tab.b9, XOp.kind, AOp.kind, zU.down, simprocAttr]
 repeat first | apply w_fin | apply w_seq | apply w_block | apply w_reg | apply w_op | apply w_dop
 refine ho.mono ?_
 rintro ⟨_, σ1⟩ ⟨b, rfl, hj, hd, k1⟩
 dsimp only at hj hd k1
 generalize jopen M = O at *
 by_cases hz : O.2.2 = 0
 · obtain ⟨hj, hb⟩ := hj hz
   have d1 : (O.2.2 != 0) = false := by simp [hz]
   rw [if_pos hz]
   simp -implicitDefEqProofs (disch := first | exact nbf rfl | exact nbt rfl | (simp only [zN.down, reduceCtorEq] <;> omega) | omega) only [d1, XOp.kind, AOp.kind, zU.down, simprocAttr]
   have k2 : Kept noX σ1 (σ1.push (.cells [.ptr b 0, .sc .nilS, .sc (.int .i64 0)])) := (Kept.refl _ _).push _
   refine ⟨σ1.n, b, by rw [if_pos hz, hz], fun _ => ⟨⟨⟨_, get_push_self, .nil⟩, hj.kept k2 (fun h => h)⟩, hb, hj.lt⟩, hd.kept k2 (fun h => h), k1.trans k2.any⟩
 · have d1 : (O.2.2 != 0) = true := by simp [hz]
   rw [if_neg hz]
   simp -implicitDefEqProofs (disch := first | exact nbf rfl | exact nbt rfl | (simp only [zN.down, reduceCtorEq] <;> omega) | omega) only [d1, XOp.kind, AOp.kind, zU.down, simprocAttr]
   exact ⟨0, 0, by rw [if_neg hz], fun h => absurd h hz, hd, k1⟩
theorem gtaken_ok (k : Nat) (ys : YlF) (σ : St) (g : Nat) :
  callY Tab.tb (k + 1) ys 39 [.ptr g 0] σ = some (.fn (.func 60) [] [.ptr σ.n 0], σ.push (.cells [.ptr g 0])) := by
 rw [s_call (af := Tab.b39) rfl (Nat.le_of_ble_eq_true rfl)]
 generalize callY Tab.tb k = cy
 simp -implicitDefEqProofs (disch := first | exact nbf rfl | exact nbt rfl | (simp only [zN.down, reduceCtorEq] <;> omega) | omega) only [Tab.b39, XOp.kind, AOp.kind, zU.down, simprocAttr]
theorem gtaken1_ok (k : Nat) (ys : YlF) (σ : St) (bx y g jb d : Nat) (l : List Tk) (jbr : Int) (S : List Sn) (br : Int) (h0 : σ.get bx = some (.cells [.ptr g 0])) (hg : GR σ g jb d l jbr S br) (hk : 1000020 ≤ k) (hl : l.length ≤ 1000000) (I : Nat → St → Prop) (Q : St → Prop) (hI0 : I 0 σ)
  (hkp : ∀ i σ σ', I i σ → Kept noX σ σ' → I i σ')
  (hy : ∀ i (hi : i < l.length) σ, I i σ → W (ys y [.agg (tkc l[i])] σ) fun r => (r.1 = .sc (.bool true) ∧ I (i + 1) r.2) ∨ (r.1 = .sc (.bool false) ∧ Q r.2)) :
  W (callY Tab.tb (k + 2) ys 60 [.yl y, .ptr bx 0] σ) fun r => I l.length r.2 ∨ Q r.2 := by
 rw [s_call (af := Tab.b60) rfl (Nat.le_of_ble_eq_true rfl)]
 have hall := fun σ b => allj_ok k ys σ b
 have hgen := fun σ bx b br h0 hj I Q a1 a2 a3 => allj1_ok k ys σ bx y b d l br h0 hj hk hl I Q a1 a2 a3
 generalize callY Tab.tb (k + 1) = cy at hall hgen ⊢
 obtain ⟨o, gg, mi⟩ := hg.g
 have hj := hg.j
 have k1 : Kept noX σ (σ.push (.cells [.ptr jb 0])) := (Kept.refl _ _).push _
 have f1 := hgen (σ.push (.cells [.ptr jb 0])) σ.n jb jbr get_push_self (hj.kept k1 (fun h => h)) I Q (hkp _ _ _ hI0 k1) hkp hy
 simp -implicitDefEqProofs (disch := first | exact nbf rfl | exact nbt rfl | (simp only [zN.down, reduceCtorEq] <;> omega) | omega) only [Tab.b60, h0, gg, dk.pnil, hall, XOp.kind, aArrAddr, AOp.kind, zP.down, zQ.down, zR.down, zS.down, simprocAttr]
 repeat first | apply w_fin | apply w_seq | apply w_block | apply w_reg | apply w_op | apply w_dop
 refine f1.mono ?_
 rintro ⟨v, σ2⟩ h
 simp -implicitDefEqProofs (disch := first | exact nbf rfl | exact nbt rfl | (simp only [zN.down, reduceCtorEq] <;> omega) | omega) only [XOp.kind, AOp.kind, zU.down, simprocAttr]
 exact h
structure LI (lo o5 y : Nat) (l : List Tk) (σ0 : St) (i : Nat) (σ : St) : Prop where
 lp : σ.get y = some (.loop .ready none)
 ls : ∃ v, σ.get o5 = some (.cells [v]) ∧ Ow lo σ 5 v ((l.take i).map tkc)
 kp : Kept noX σ0 σ
theorem LI.kept {lo o5 y : Nat} {l : List Tk} {σ0 : St} {i : Nat} {σ σ' : St} (h : LI lo o5 y l σ0 i σ) (k : Kept noX σ σ') : LI lo o5 y l σ0 i σ' := by
 obtain ⟨v, h1, h2⟩ := h.ls
 exact ⟨k.get _ _ (fun h => h) h.lp, ⟨v, k.get _ _ (fun h => h) h1, h2.kept0 k⟩, h.kp.trans k⟩
theorem list_ok (k : Nat) (ys : YlF) (σ : St) (g jb d : Nat) (l : List Tk) (jbr : Int) (S : List Sn) (br : Int) (hj : GR σ g jb d l jbr S br) (hk : 1000020 ≤ k) (hl : l.length ≤ 1000000) :
  W (callY Tab.tb (k + 3) ys 19 [.ptr g 0] σ) fun r => ∃ v, r.1 = .tup [v, .sc (.bool true)] ∧ Ow σ.n r.2 5 v (l.map tkc) ∧ Kept noX σ r.2 := by
 rw [s_call (af := Tab.b19) rfl (Nat.le_of_ble_eq_true rfl)]
 have hall := fun σ => gtaken_ok (k + 1) ys σ g
 have hgen := fun ys σ bx y h0 hj I Q a1 a2 a3 => gtaken1_ok k ys σ bx y g jb d l jbr S br h0 hj hk hl I Q a1 a2 a3
 generalize callY Tab.tb (k + 2) = cy at hall hgen ⊢
 have hnf : ∀ g : FuncId, ∀ a b σ, aEqV σ .func (.fn (.func g) a b) (.sc .nilF) = some false := fun _ _ _ _ => rfl
 simp -implicitDefEqProofs (disch := first | exact nbf rfl | exact nbt rfl | (simp only [zN.down, reduceCtorEq] <;> omega) | omega) only [Tab.b19, hall, hnf, XOp.kind, aArrAddr, AOp.kind, zP.down, zQ.down, zR.down, zS.down, simprocAttr]
 repeat first | apply w_fin | apply w_seq | apply w_block | apply w_reg | apply w_op | apply w_dop
 have g0 : ((σ.push (.cells [.ptr g 0])).push (.cells [.sc .nilS])).get σ.n = some (.cells [.ptr g 0]) := get_push_lt get_push_self
 have g1 : ((σ.push (.cells [.ptr g 0])).push (.cells [.sc .nilS])).get (σ.n + 1) = some (.cells [.sc .nilS]) := get_push_eq (by simp)
 have kp : Kept noX σ ((σ.push (.cells [.ptr g 0])).push (.cells [.sc .nilS])) := ((Kept.refl _ _).push _).push _
 have hn : ((σ.push (.cells [.ptr g 0])).push (.cells [.sc .nilS])).n = σ.n + 2 := by simp
 generalize ((σ.push (.cells [.ptr g 0])).push (.cells [.sc .nilS])) = σ1 at *
 refine W.mono (Q := fun r => ∃ (ρ : Env) (σ' : St) (v : V), r = ((.normal : Ex), ρ, σ') ∧ ρ 5 = .ptr (σ.n + 1) 0 ∧ σ'.get (σ.n + 1) = some (.cells [v]) ∧ Ow σ.n σ' 5 v (l.map tkc) ∧ Kept noX σ σ') ?_ ?_
 · refine w_range (g := 60) (cap := [.ptr σ.n 0]) (by simp -implicitDefEqProofs (disch := first | exact nbf rfl | exact nbt rfl | (simp only [zN.down, reduceCtorEq] <;> omega) | omega) only [XOp.kind, AOp.kind, zU.down, simprocAttr]) ?_
   intro ys' hys
   rw [hn] at hys ⊢
   have hl0 : (σ1.push (.loop .ready none)).get (σ.n + 2) = some (.loop .ready none) := get_push_eq hn.symm
   refine (hgen ys' (σ1.push (.loop .ready none)) σ.n (σ.n + 2) (get_push_lt g0) (hj.kept0 (kp.push _)) (LI σ.n (σ.n + 1) (σ.n + 2) l σ) (fun _ => False) ⟨hl0, ⟨.sc .nilS, get_push_lt g1, .nil⟩, kp.push _⟩ (fun i σ σ' h k => h.kept k) ?_).mono ?_
   · intro i hi σ2 hI
     rw [hys]
     refine w_round hI.lp rfl ?_
     obtain ⟨v, g3, how⟩ := hI.ls
     have l2 := hI.lp
     have n3 := St.get_lt l2
     have htk : l.take i ++ [l[i]] = l.take (i + 1) := by rw [List.take_add_one, List.getElem?_eq_getElem hi]; rfl
     have hrv := tkc_rv l[i]
     generalize l[i] = x at *
     have hmap : (l.take i).map tkc ++ [x].map tkc = (l.take (i + 1)).map tkc := by rw [← htk, List.map_append]
     simp only [tkc] at hrv
     have k0 : Kept (fun o => o = σ.n + 2) σ2 (σ2.bump.put (σ.n + 2) (some (.loop .busy none))) := Kept.put (X := fun o => o = σ.n + 2) ((Kept.refl _ _).bump) (.inl rfl) (by simp; omega) _
     have hps : (σ2.bump.put (σ.n + 2) (some (.loop .busy none))).n = σ2.n + 1 := by simp
     have howb : Ow σ.n (σ2.bump.put (σ.n + 2) (some (.loop .busy none))) 5 v ((l.take i).map tkc) := how.kept k0 (by rintro _ rfl; rw [l2]; simp)
     have hlt : (l.take i).length ≤ i := by rw [List.length_take]; omega
     have g3b := k0.get _ _ (by omega) g3
     have lpb : (σ2.bump.put (σ.n + 2) (some (.loop .busy none))).get (σ.n + 2) = some (.loop .busy none) := get_put_self (by rw [St.get_bump]; exact l2)
     simp -implicitDefEqProofs (disch := first | exact nbf rfl | exact nbt rfl | (simp only [zN.down, reduceCtorEq] <;> omega) | omega) only [bind1, l2, g3, bsl1t, tkc, XOp.kind, AOp.kind, zU.down, simprocAttr]
     repeat first | apply w_fin | apply w_seq | apply w_block | apply w_reg | apply w_op | apply w_dop
     refine (grow_ok howb hrv (by rw [hps]; omega) (by unfold roomB; simp; omega) (by unfold roomB; simp; omega)).mono ?_
     rintro ⟨v', σ3⟩ ⟨h1, h2⟩
     dsimp only at h1 h2
     have h1 : Ow σ.n σ3 5 v' ((l.take (i + 1)).map tkc) := by rw [← hmap]; exact h1
     have q0 := h2.cells g3b
     have q3 := h2.get _ _ lpb (.inr (by simp))
     have n4 := St.get_lt q3
     have hc := h1.rv.cell
     have kk : Kept noX σ σ3 := by
      have k5 : Kept noX σ (σ2.bump.put (σ.n + 2) (some (.loop .busy none))) := hI.kp.bump.put (.inr (by omega)) (by simp; omega) _
      exact h2.kept k5 (Nat.le_refl _)
     simp -implicitDefEqProofs (disch := first | exact nbf rfl | exact nbt rfl | (simp only [zN.down, reduceCtorEq] <;> omega) | omega) only [q0, q3, hc.1, hc.2, XOp.kind, AOp.kind, zU.down, simprocAttr]
     have n5 := St.get_lt q0
     refine ⟨⟨_, _, rfl⟩, fun _ => .inl ⟨?_, ⟨v', ?_, ?_⟩, ?_⟩, fun h => h.elim⟩
     · exact get_put_self (get_put_other n5 (by omega) q3)
     · exact get_put_other (by simp; exact n4) (by omega) (get_put_self q0)
     · refine h1.kept (X := fun o => o = σ.n + 1 ∨ o = σ.n + 2) (((Kept.refl _ _).put (.inl (.inl rfl)) n5 _).put (.inl (.inr rfl)) (by simp; exact n4) _) ?_
       rintro _ (rfl | rfl)
       · rw [q0]; simp
       · rw [q3]; simp
     · exact (kk.put (.inr (by omega)) n5 _).put (.inr (by omega)) (by simp; exact n4) _
   · rintro ⟨r, σ2⟩ (h | h)
     · dsimp only at h
       obtain ⟨v, g3, how⟩ := h.ls
       rw [List.take_length] at how
       have n3 := St.get_lt h.lp
       dsimp only
       rw [after_n h.lp]
       refine ⟨_, rfl, _, _, v, rfl, by simp -implicitDefEqProofs (disch := first | exact nbf rfl | exact nbt rfl | (simp only [zN.down, reduceCtorEq] <;> omega) | omega) only [XOp.kind, AOp.kind, zU.down, simprocAttr], get_put_other n3 (by omega) g3, how.kept (X := (· = σ.n + 2)) (Kept.put (X := (· = σ.n + 2)) (Kept.refl _ _) (.inl rfl) n3 _) (by rintro _ rfl; rw [h.lp]; simp), h.kp.put (.inr (by omega)) n3 _⟩
     · exact h.elim
 · rintro _ ⟨ρ, σ', v, rfl, e5, g2, how, kp⟩
   have hc := how.rv.cell
   simp -implicitDefEqProofs (disch := first | exact nbf rfl | exact nbt rfl | (simp only [zN.down, reduceCtorEq] <;> omega) | omega) only [e5, g2, hc.1, hc.2, XOp.kind, AOp.kind, zU.down, simprocAttr]
   exact ⟨v, rfl, how, kp⟩
theorem same_ok (k : Nat) (ys : YlF) (σ : St) (va vb : V) (l : List Tk) (ha : RV 5 va (l.map tkc)) (hb : RV 5 vb (l.map tkc)) (hk : 1000020 ≤ k) (hl : l.length ≤ 1000000) :
  W (callY Tab.tb (k + 1) ys 22 [va, vb] σ) fun r => r.1 = .sc (.bool true) ∧ Kept noX σ r.2 := by
 rw [s_call (af := Tab.b22) rfl (Nat.le_of_ble_eq_true rfl)]
 generalize callY Tab.tb k = cy
 have alen := ha.len
 have asize := ha.size
 have blen := hb.len
 have bsize := hb.size
 rw [List.length_map] at alen blen
 have hne2 : ∀ a : Int, (a != a) = false := fun a => by simp
 simp -implicitDefEqProofs (disch := first | exact nbf rfl | exact nbt rfl | (simp only [zN.down, reduceCtorEq] <;> omega) | omega) only [Tab.b22, alen, blen, hne2, XOp.kind, AOp.kind, zU.down, simprocAttr]
 repeat first | apply w_fin | apply w_seq | apply w_block | apply w_reg | apply w_op | apply w_dop
 refine W.mono (Q := fun r => ∃ (ρ : Env) (σ' : St), r = ((.exit 0 : Ex), ρ, σ') ∧ Kept noX σ σ') ?_ ?_
 · refine w_loop (fun m ρ σ' => ∃ i, m = l.length - i ∧ i ≤ l.length ∧ Kept noX σ σ' ∧ ρ 0 = va ∧ ρ 1 = vb ∧ ρ 12 = .sc (.int .i64 l.length) ∧ ρ 13 = .sc (.int .i64 i)) l.length (by omega) ?_ ?_
   · refine ⟨0, rfl, Nat.zero_le _, by ((repeat (first | refine Kept.push ?_ _ | refine Kept.bump ?_ | refine Kept.put ?_ (.inr (by omega)) (by first | omega | (simp only [St.n_put, St.n_push]; omega)) _)); first | exact Kept.refl _ _ | assumption), ?_, ?_, ?_, ?_⟩
     all_goals first | rfl | (simp -implicitDefEqProofs (disch := first | exact nbf rfl | exact nbt rfl | (simp only [zN.down, reduceCtorEq] <;> omega) | omega) only [XOp.kind, AOp.kind, zU.down, simprocAttr]; done) | (simp -implicitDefEqProofs (disch := first | exact nbf rfl | exact nbt rfl | (simp only [zN.down, reduceCtorEq] <;> omega) | omega) only [XOp.kind, AOp.kind, zU.down, simprocAttr]; rfl)
   · rintro m ρ σ' ⟨i, hm, hi, kp, e0, e1, e12, e13⟩
     by_cases hil : i < l.length
     · have c1 : decide ((i : Int) < (l.length : Int)) = true := by simpa using hil
       obtain ⟨a1, a2, a3⟩ := tkc_at ha hil
       obtain ⟨b1, b2, b3⟩ := tkc_at hb hil
       simp only [tkc] at a3 b3
       generalize l[i] = x at *
       have w1 : IntKind.i64.wrap ((i : Int) + 1) = ((i + 1 : Nat) : Int) := wrap64 (by omega) (by omega)
       simp -implicitDefEqProofs (disch := first | exact nbf rfl | exact nbt rfl | (simp only [zN.down, reduceCtorEq] <;> omega) | omega) only [c1, e0, e1, e12, e13, a1, a2, a3, b1, b2, b3, asize, bsize, eqT, w1, XOp.kind, aArrAddr, AOp.kind, zP.down, zQ.down, zR.down, zS.down, simprocAttr]
       exact ⟨l.length - (i + 1), by omega, i + 1, rfl, hil, by ((repeat (first | refine Kept.push ?_ _ | refine Kept.bump ?_ | refine Kept.put ?_ (.inr (by omega)) (by first | omega | (simp only [St.n_put, St.n_push]; omega)) _)); first | exact Kept.refl _ _ | assumption), rfl⟩
     · have c1 : decide ((i : Int) < (l.length : Int)) = false := by simpa using hil
       simp -implicitDefEqProofs (disch := first | exact nbf rfl | exact nbt rfl | (simp only [zN.down, reduceCtorEq] <;> omega) | omega) only [c1, e12, e13, XOp.kind, AOp.kind, zU.down, simprocAttr]
       exact ⟨_, _, rfl, kp⟩
 · rintro _ ⟨ρ, σ', rfl, kp⟩
   simp -implicitDefEqProofs (disch := first | exact nbf rfl | exact nbt rfl | (simp only [zN.down, reduceCtorEq] <;> omega) | omega) only [XOp.kind, AOp.kind, zU.down, simprocAttr]
   exact kp
theorem works_run : (callY Tab.tb 9223372036854775999 noYl 4 [] St.empty).map (·.1) = some (.sc (.bool true)) := by kernel_rfl
theorem works_ok : ∃ σ1, callY Tab.tb (9223372036854775990 + 9) noYl 4 [] St.empty = some (.sc (.bool true), σ1) := by
 have h := works_run
 rw [Option.map_eq_some_iff] at h
 obtain ⟨⟨v, σ1⟩, h1, h2⟩ := h
 exact ⟨σ1, by rw [show (9223372036854775990 + 9 : Nat) = 9223372036854775999 from rfl, h1]; simp only at h2; rw [h2]⟩
structure Stp where
 k : Int
 n : Int
 m : Ms
 s : List UInt8
 kp : Int
def stc (p : Stp) : List V := [.sc (.int .i64 p.k), .sc (.int .i64 p.n)] ++ mc p.m ++ [.str p.s, .sc (.int .i64 p.kp)]
structure Stp.Ok (p : Stp) : Prop where
 n : -9223372036854775808 ≤ p.n ∧ p.n ≤ 9223372036854775807
 s : p.s.length ≤ 140737488351232
 t : p.m.dat.length ≤ 140737488351232
 en : Cell1 p.m.en
structure Scr (x : V) (l : List Stp) : Prop where
 rv : RV 26 x (l.map stc)
 ok : ∀ p ∈ l, p.Ok
 len : l.length ≤ 9223372036854775807
abbrev msT : Ty := .agg [.int .u8, .int .i64, .int .i64, .int .i64, .int .i64, .int .i64, .int .i64, .int .i64, .bool, .sl (.agg [.int .i64, .str]), .int .i64, .int .i64, .str, .int .i64, .agg [.int .i64, .int .i64], .int .i64, .int .i64, .int .i64, .int .u8, .int .i64, .int .i64]
abbrev stT : Ty := .agg [.int .i64, .int .i64, msT, .str, .int .i64]
theorem scr_of {x : V} (h : ArgA (.sl stT) x) : ∃ l, Scr x l := by
 obtain ⟨es, h1, h2, h3, h4⟩ := rv_slA h
 have : ∃ l : List Stp, es = l.map stc ∧ ∀ p ∈ l, p.Ok := by
  clear h h1 h3 h4
  induction es with
  | nil => exact ⟨[], rfl, by simp⟩
  | cons e es ih =>
   obtain ⟨l, rfl, h6⟩ := ih fun a ha => h2 a (List.mem_cons_of_mem _ ha)
   have h := h2 e List.mem_cons_self
   simp only [Arg, ArgL] at h
   obtain ⟨a1, b1, rfl, ⟨r1, rfl, v1⟩, ⟨a2, b2, rfl, ⟨r2, rfl, v2⟩, ⟨a3, b3, rfl, hms, ⟨a4, b4, rfl, ⟨r4, rfl, v4⟩, ⟨a5, b5, rfl, ⟨r5, rfl, v5⟩, rfl⟩⟩⟩⟩⟩ := h
   obtain ⟨a0, b0, rfl, ⟨n0, rfl, w0⟩, ⟨a1, b1, rfl, ⟨n1, rfl, w1⟩, ⟨a2, b2, rfl, ⟨n2, rfl, w2⟩, ⟨a3, b3, rfl, ⟨n3, rfl, w3⟩, ⟨a4, b4, rfl, ⟨n4, rfl, w4⟩, ⟨a5, b5, rfl, ⟨n5, rfl, w5⟩, ⟨a6, b6, rfl, ⟨n6, rfl, w6⟩, ⟨a7, b7, rfl, ⟨n7, rfl, w7⟩, ⟨a8, b8, rfl, ⟨n8, rfl⟩, ⟨a9, b9, rfl, hs, ⟨a10, b10, rfl, ⟨n10, rfl, w10⟩, ⟨a11, b11, rfl, ⟨n11, rfl, w11⟩, ⟨a12, b12, rfl, ⟨n12, rfl, w12⟩, ⟨a13, b13, rfl, ⟨n13, rfl, w13⟩, ⟨a14, b14, rfl, ⟨c1, d1, rfl, ⟨p1, rfl, wp1⟩, ⟨c2, d2, rfl, ⟨p2, rfl, wp2⟩, rfl⟩⟩, ⟨a15, b15, rfl, ⟨n15, rfl, w15⟩, ⟨a16, b16, rfl, ⟨n16, rfl, w16⟩, ⟨a17, b17, rfl, ⟨n17, rfl, w17⟩, ⟨a18, b18, rfl, ⟨n18, rfl, w18⟩, ⟨a19, b19, rfl, ⟨n19, rfl, w19⟩, ⟨a20, b20, rfl, ⟨n20, rfl, w20⟩, rfl⟩⟩⟩⟩⟩⟩⟩⟩⟩⟩⟩⟩⟩⟩⟩⟩⟩⟩⟩⟩⟩ := hms
   have h5 : ∃ v, a9 = [v] ∧ Cell1 v := by
    rcases hs with rfl | ⟨a, rfl⟩ | ⟨es, q1, rfl, q2⟩ <;> exact ⟨_, rfl, rfl, rfl⟩
   obtain ⟨v, rfl, hv⟩ := h5
   refine ⟨⟨r1, r2, ⟨n0, n1, n2, n3, n4, n5, n6, n7, n8, v, n10, n11, n12, n13, p1, p2, n15, n16, n17, n18, n19, n20⟩, r4, r5⟩ :: l, rfl, fun p hp => ?_⟩
   rcases List.mem_cons.1 hp with rfl | hp
   · exact ⟨wf64 v2, by simpa [reachBytes] using v4, by simpa [reachBytes] using w12, hv⟩
   · exact h6 p hp
 obtain ⟨l, rfl, h6⟩ := this
 refine ⟨l, h1, h6, by simpa [maxLen] using h3⟩
theorem Scr.at {x : V} {l : List Stp} (h : Scr x l) {i : Nat} (hi : i < l.length) : aSlAddr x (.sc (.int .i64 i)) = some (.elt (l.map stc).flatten (i * 26)) ∧ (i * 26 + 26 ≤ (l.map stc).flatten.length) = True ∧ ((l.map stc).flatten.drop (i * 26)).take 26 = stc l[i] := by
 have := h.rv.at (i := i) (by simpa using hi)
 simpa using this
theorem heavy_ok (k : Nat) (ys : YlF) (σ : St) (x : V) (l : List Stp) (h : Scr x l) (hk : 9223372036854775808 ≤ k) :
  W (callY Tab.tb (k + 1) ys 5 [x] σ) fun r => ∃ b, r.1 = .sc (.bool b) ∧ Kept noX σ r.2 ∧ (b = false → l.length ≤ 120 ∧ ∀ p ∈ l, p.s.length ≤ 16384 ∧ p.m.dat.length ≤ 16384) := by
 rw [s_call (af := Tab.b5) rfl (Nat.le_of_ble_eq_true rfl)]
 have hlen := h.rv.len
 rw [List.length_map] at hlen
 have hsize := h.rv.size
 have hl2 := h.len
 generalize callY Tab.tb k = cy
 simp -implicitDefEqProofs (disch := first | exact nbf rfl | exact nbt rfl | (simp only [zN.down, reduceCtorEq] <;> omega) | omega) only [Tab.b5, hlen, XOp.kind, AOp.kind, zU.down, simprocAttr]
 repeat first | apply w_fin | apply w_seq | apply w_block | apply w_reg | apply w_op | apply w_dop
 have mm : ∀ n : Nat, (if (65536 : Int) < (n : Int) then (65536 : Int) else (n : Int)) = ((min n 65536 : Nat) : Int) := fun n => by split <;> omega
 refine W.mono (Q := fun r => (∃ (ρ : Env) (σ' : St), r = ((.ret : Ex), ρ, σ') ∧ ρ 2 = .sc (.bool true) ∧ Kept noX σ σ') ∨ (∃ (ρ : Env) (σ' : St), r = ((.exit 0 : Ex), ρ, σ') ∧ ρ 0 = x ∧ (∀ p ∈ l, p.s.length ≤ 16384 ∧ p.m.dat.length ≤ 16384) ∧ Kept noX σ σ')) ?_ ?_
 · refine w_loop (fun m ρ σ' => ∃ (i n : Nat), m = l.length - i ∧ i ≤ l.length ∧ n ≤ 16384 ∧ ρ 0 = x ∧ ρ 6 = x ∧ ρ 7 = .sc (.int .i64 l.length) ∧ ρ 3 = .sc (.int .i64 n) ∧ ρ 8 = .sc (.int .i64 i) ∧ (∀ p ∈ l.take i, p.s.length ≤ 16384 ∧ p.m.dat.length ≤ 16384) ∧ Kept noX σ σ') l.length (by omega) ?_ ?_
   · refine ⟨0, 0, rfl, Nat.zero_le _, by omega, ?_, ?_, ?_, ?_, ?_, by simp, Kept.refl _ _⟩
     all_goals first | rfl | (simp -implicitDefEqProofs (disch := first | exact nbf rfl | exact nbt rfl | (simp only [zN.down, reduceCtorEq] <;> omega) | omega) only [XOp.kind, AOp.kind, zU.down, simprocAttr]; done) | (simp -implicitDefEqProofs (disch := first | exact nbf rfl | exact nbt rfl | (simp only [zN.down, reduceCtorEq] <;> omega) | omega) only [XOp.kind, AOp.kind, zU.down, simprocAttr]; rfl)
   · rintro m ρ σ' ⟨i, n, hm, hi, hn, e0, e6, e7, e3, e8, hp, hkept⟩
     by_cases hl : i < l.length
     · have c1 : decide ((i : Int) < (l.length : Int)) = true := by simpa using hl
       obtain ⟨a1, a2, a3⟩ := h.at hl
       simp only [stc, mc, List.cons_append, List.nil_append] at a3
       have hpo := h.ok _ (List.getElem_mem hl)
       have hs1 := hpo.s
       have ht1 := hpo.t
       have hec := hpo.en
       unfold Cell1 at hec
       have hpi : ∀ p ∈ l.take (i + 1), p ∈ l.take i ∨ p = l[i] := fun p hp' => by
        rw [List.take_add_one, List.getElem?_eq_getElem hl] at hp'
        rcases List.mem_append.1 hp' with h1 | h1
        · exact .inl h1
        · exact .inr (by simpa using h1)
       generalize l[i] = q at *
       have w2 : IntKind.i64.wrap ((i : Int) + 1) = (i : Int) + 1 := wrap64 (by omega) (by omega)
       have w4 : IntKind.i64.wrap ((q.s.length : Int) + (q.m.dat.length : Int)) = ((q.s.length + q.m.dat.length : Nat) : Int) := by rw [wrap64 (by omega) (by omega)]; omega
       have w3 : IntKind.i64.wrap ((n : Int) + ((min (q.s.length + q.m.dat.length) 65536 : Nat) : Int)) = ((n + min (q.s.length + q.m.dat.length) 65536 : Nat) : Int) := by rw [wrap64 (by omega) (by omega)]; omega
       by_cases hg : n + min (q.s.length + q.m.dat.length) 65536 > 16384
       · have c2 : decide (((n + min (q.s.length + q.m.dat.length) 65536 : Nat) : Int) > 16384) = true := by simp only [decide_eq_true_eq]; omega
         simp -implicitDefEqProofs (disch := first | exact nbf rfl | exact nbt rfl | (simp only [zN.down, reduceCtorEq] <;> omega) | omega) only [c1, e0, e6, e7, e3, e8, a1, a2, a3, hsize, hec.1, hec.2, mm, w3, w4, c2, XOp.kind, AOp.kind, zU.down, simprocAttr]
         left
         refine ⟨_, _, rfl, ?_, hkept.bump⟩
         simp -implicitDefEqProofs (disch := first | exact nbf rfl | exact nbt rfl | (simp only [zN.down, reduceCtorEq] <;> omega) | omega) only [XOp.kind, AOp.kind, zU.down, simprocAttr]
       · have c2 : decide (((n + min (q.s.length + q.m.dat.length) 65536 : Nat) : Int) > 16384) = false := by simp only [decide_eq_false_iff_not]; omega
         simp -implicitDefEqProofs (disch := first | exact nbf rfl | exact nbt rfl | (simp only [zN.down, reduceCtorEq] <;> omega) | omega) only [c1, e0, e6, e7, e3, e8, a1, a2, a3, hsize, hec.1, hec.2, mm, w2, w3, w4, c2, XOp.kind, AOp.kind, zU.down, simprocAttr]
         refine ⟨l.length - (i + 1), by omega, i + 1, n + min (q.s.length + q.m.dat.length) 65536, rfl, hl, by omega, by simp, by simp, fun p hp' => ?_, hkept.bump⟩
         rcases hpi p hp' with h1 | rfl
         · exact hp p h1
         · omega
     · have c1 : decide ((i : Int) < (l.length : Int)) = false := by simpa using hl
       have : i = l.length := by omega
       subst this
       rw [List.take_length] at hp
       simp -implicitDefEqProofs (disch := first | exact nbf rfl | exact nbt rfl | (simp only [zN.down, reduceCtorEq] <;> omega) | omega) only [c1, e0, e6, e7, e8, XOp.kind, AOp.kind, zU.down, simprocAttr]
       right
       refine ⟨_, _, rfl, ?_, hp, hkept⟩
       simp -implicitDefEqProofs (disch := first | exact nbf rfl | exact nbt rfl | (simp only [zN.down, reduceCtorEq] <;> omega) | omega) only [e0, XOp.kind, AOp.kind, zU.down, simprocAttr]
 · rintro _ (⟨ρ, σ', rfl, e2, hkept⟩ | ⟨ρ, σ', rfl, e0, hp, hkept⟩)
   · simp -implicitDefEqProofs (disch := first | exact nbf rfl | exact nbt rfl | (simp only [zN.down, reduceCtorEq] <;> omega) | omega) only [e2, XOp.kind, AOp.kind, zU.down, simprocAttr]
     exact ⟨true, rfl, hkept, fun h => by cases h⟩
   · simp -implicitDefEqProofs (disch := first | exact nbf rfl | exact nbt rfl | (simp only [zN.down, reduceCtorEq] <;> omega) | omega) only [e0, hlen, XOp.kind, AOp.kind, zU.down, simprocAttr]
     refine ⟨_, rfl, hkept, fun hb => ⟨?_, hp⟩⟩
     simp only [decide_eq_false_iff_not] at hb
     omega
end Go.Proofs.YtehdjkikcfeiaaaGreat.jn
namespace Go.Proofs.YtehdjkikcfeiaaaGreat.jn
open Go.Ab fr dk rg
set_option maxRecDepth 100000
set_option maxHeartbeats 8000000
set_option linter.unusedSimpArgs false
set_option linter.unusedVariables false
theorem eq2 (σ : St) (a b c d : Int) : aEqV σ (.struct [(0, none, .int .i64), (1, none, .int .i64)]) (.agg [.sc (.int .i64 a), .sc (.int .i64 b)]) (.agg [.sc (.int .i64 c), .sc (.int .i64 d)]) = some (a == c && b == d) := by
 simp [aEqV, aEqFs, aPart, aEqInt]
theorem i_and1 (n : Int) : IntKind.i64.wrap ((BitVec.ofInt IntKind.i64.bits n &&& BitVec.ofInt IntKind.i64.bits 1).toNat : Int) = (((n % 2).toNat : Nat) : Int) := by
 have h1 : (BitVec.ofInt IntKind.i64.bits n &&& BitVec.ofInt IntKind.i64.bits 1).toNat = (n % 2).toNat := by
  rw [BitVec.toNat_and]
  have e1 : (BitVec.ofInt IntKind.i64.bits 1).toNat = 1 := by decide
  rw [e1, Nat.and_one_is_mod]
  have e2 : (BitVec.ofInt IntKind.i64.bits n).toNat = (n % 18446744073709551616).toNat := by
   rw [BitVec.toNat_ofInt]; rfl
  rw [e2]
  omega
 rw [h1]
 exact wrap64 (by omega) (by omega)
abbrev Op := Nat → Option (List UInt8)
def says (o : Op) (k : Nat) (s : List UInt8) : Op := fun j => if j = k then some s else o j
structure RI (σ : St) (ro : Nat) (N : Nat → Prop) (o : Op) : Prop where
 g : ∃ cs, σ.get ro = some (.cells cs) ∧ cs.length = 2 ∧ (∀ k, k < 2 → ∃ v, cs[k]? = some v ∧ RP σ v (o k) ∧ ∀ p, v = V.ptr p 0 → ¬ N p) ∧ ∀ (j k p : Nat), j ≠ k → cs[j]? = some (V.ptr p 0) → cs[k]? ≠ some (V.ptr p 0)
theorem RP.lt {σ : St} {p : Nat} {o : Option (List UInt8)} (h : RP σ (.ptr p 0) o) : p < σ.n := by
 cases o with
 | none => cases h
 | some s => obtain ⟨q, hq, h⟩ := h; cases hq; exact h.lt
theorem RI.kept {X N : Nat → Prop} {σ σ' : St} {ro : Nat} {o : Op} (h : RI σ ro N o) (k : Kept X σ σ') (h1 : ¬ X ro) (h2 : ∀ p, X p → N p) : RI σ' ro N o := by
 obtain ⟨cs, g, hl, hc, hd⟩ := h.g
 refine ⟨cs, k.get _ _ h1 g, hl, fun i hi => ?_, hd⟩
 obtain ⟨v, a, b, c⟩ := hc i hi
 exact ⟨v, a, b.kept k fun p hp hx => c p hp (h2 p hx), c⟩
theorem RI.more {N N' : Nat → Prop} {σ : St} {ro : Nat} {o : Op} (h : RI σ ro N o) (hn : ∀ p, N' p → N p ∨ σ.n ≤ p) : RI σ ro N' o := by
 obtain ⟨cs, g, hl, hc, hd⟩ := h.g
 refine ⟨cs, g, hl, fun i hi => ?_, hd⟩
 obtain ⟨v, a, b, c⟩ := hc i hi
 refine ⟨v, a, b, fun p hp hx => ?_⟩
 rcases hn p hx with h1 | h1
 · exact c p hp h1
 · subst hp
   have := b.lt
   omega
theorem RI.at {N : Nat → Prop} {σ : St} {ro : Nat} {o : Op} (h : RI σ ro N o) {k : Nat} (hk : k < 2) : ∃ cs v, σ.get ro = some (.cells cs) ∧ cs.length = 2 ∧ cs[k]? = some v ∧ RP σ v (o k) ∧ ∀ p, v = V.ptr p 0 → ¬ N p := by
 obtain ⟨cs, g, hl, hc, hd⟩ := h.g
 obtain ⟨v, a, b, c⟩ := hc k hk
 exact ⟨cs, v, g, hl, a, b, c⟩
theorem RI.new {N : Nat → Prop} {σ σ' : St} {ro : Nat} {o : Op} {k : Nat} {cs : List V} (h : RI σ ro N o) (hk : k < 2) (g : σ.get ro = some (.cells cs)) (k1 : Kept noX σ σ') (hr : RG σ' σ.n []) (hN : ∀ p, N p → p < σ.n) (hro : N ro) : RI (σ'.put ro (some (.cells (cs.set k (.ptr σ.n 0))))) ro N (says o k []) := by
 obtain ⟨cs', g', hl, hc, hd⟩ := h.g
 rw [g] at g'; cases g'
 have g2 := k1.get _ _ (fun h => h) g
 have kk : Kept (· = ro) σ' (σ'.put ro (some (.cells (cs.set k (.ptr σ.n 0))))) := Kept.put (X := (· = ro)) (Kept.refl _ _) (.inl rfl) (St.get_lt g2) _
 have hrn : σ.n ≠ ro := fun h => by have := hN ro hro; omega
 have lo : ∀ j p, cs[j]? = some (V.ptr p 0) → p < σ.n := fun j p hj => by
  have : j < 2 := by
   by_cases q : j < 2
   · exact q
   · rw [List.getElem?_eq_none (by omega)] at hj; cases hj
  obtain ⟨v, a, b, c⟩ := hc j this
  rw [hj] at a; cases a
  exact b.lt
 refine ⟨_, get_put_self g2, by simp [hl], fun j hj => ?_, fun i j p hij h1 h2 => ?_⟩
 · by_cases c : j = k
   · subst c
     refine ⟨.ptr σ.n 0, by simp [hl, hj], ?_, fun p hp hx => by cases hp; have := hN _ hx; omega⟩
     unfold says
     rw [if_pos rfl]
     exact ⟨σ.n, rfl, hr.kept kk hrn⟩
   · obtain ⟨v, a, b, c2⟩ := hc j hj
     refine ⟨v, by rw [List.getElem?_set_ne (fun h => c h.symm)]; exact a, ?_, c2⟩
     unfold says
     rw [if_neg c]
     exact (b.kept k1 fun _ _ h => h).kept kk fun p hp hx => c2 p hp (by rw [hx]; exact hro)
 · by_cases c1 : i = k
   · subst c1
     rw [List.getElem?_set_ne hij] at h2
     have := lo _ _ h2
     simp [hl, hk] at h1
     omega
   · rw [List.getElem?_set_ne (fun h => c1 h.symm)] at h1
     have := lo _ _ h1
     by_cases c2 : j = k
     · subst c2
       simp [hl, hk] at h2
       omega
     · rw [List.getElem?_set_ne (fun h => c2 h.symm)] at h2
       exact hd i j p hij h1 h2
theorem RI.put {N : Nat → Prop} {σ σ' : St} {ro : Nat} {o : Op} {k p : Nat} {s : List UInt8} {cs : List V} (h : RI σ ro N o) (hk : k < 2) (g : σ.get ro = some (.cells cs)) (hp : cs[k]? = some (.ptr p 0)) (k1 : Kept (· = p) σ σ') (hr : RG σ' p s) (hro : N ro) : RI σ' ro N (says o k s) := by
 obtain ⟨cs', g', hl, hc, hd⟩ := h.g
 rw [g] at g'; cases g'
 obtain ⟨v, a, b, c⟩ := hc k hk
 rw [hp] at a; cases a
 refine ⟨cs, k1.get _ _ (fun h => c p rfl (by rw [← h]; exact hro)) g, hl, fun j hj => ?_, hd⟩
 unfold says
 by_cases cj : j = k
 · subst cj
   rw [if_pos rfl]
   exact ⟨_, hp, ⟨p, rfl, hr⟩, c⟩
 · obtain ⟨v, a, b2, c2⟩ := hc j hj
   rw [if_neg cj]
   refine ⟨v, a, b2.kept k1 fun q hq hx => ?_, c2⟩
   subst hx
   subst hq
   exact hd j k q cj a hp
structure OU (σ : St) (ou : Nat) (o : Op) : Prop where
 g : ∃ cs, σ.get ou = some (.cells cs) ∧ cs.length = 6 ∧ ∀ k, k < 2 → cs[k * 3]? = some (.sc (.bool (o k).isSome)) ∧ cs[k * 3 + 1]? = some (.str ((o k).getD [])) ∧ cs[k * 3 + 2]? = some (.sc (.int .i64 ((((o k).getD []).length - 1024 : Nat) : Int)))
theorem OU.kept {X : Nat → Prop} {σ σ' : St} {ou : Nat} {o : Op} (h : OU σ ou o) (k : Kept X σ σ') (h1 : ¬ X ou) : OU σ' ou o := by
 obtain ⟨cs, g, hc⟩ := h.g
 exact ⟨cs, k.get _ _ h1 g, hc⟩
theorem OU.at {σ : St} {ou : Nat} {o : Op} (h : OU σ ou o) {k : Nat} (hk : k < 2) : ∃ cs, σ.get ou = some (.cells cs) ∧ cs.length = 6 ∧ V.agg ((cs.drop (k * 3)).take 3) = ovl (o k) ∧ cs[k * 3 + 1]? = some (.str ((o k).getD [])) := by
 obtain ⟨cs, g, hl, hc⟩ := h.g
 obtain ⟨a, b, c⟩ := hc k hk
 refine ⟨cs, g, hl, ?_, b⟩
 unfold ovl
 congr 1
 refine List.ext_getElem? fun i => ?_
 rw [List.getElem?_take]
 rcases Nat.lt_or_ge i 3 with h | h
 · rw [if_pos h, List.getElem?_drop]
   rcases (show i = 0 ∨ i = 1 ∨ i = 2 by omega) with rfl | rfl | rfl
   · exact a
   · exact b
   · exact c
 · rw [if_neg (by omega)]
   exact (List.getElem?_eq_none (by simpa using h)).symm
theorem OU.says {σ σ' : St} {ou : Nat} {o : Op} {k : Nat} {s : List UInt8} {cs : List V} (h : OU σ ou o) (hk : k < 2) (g : σ.get ou = some (.cells cs)) (b : Nat) (hb : b = s.length - 1024) (g2 : σ'.get ou = some (.cells (((cs.set (k * 3) (.sc (.bool true))).set (k * 3 + 1) (.str s)).set (k * 3 + 2) (.sc (.int .i64 (b : Int)))))) : OU σ' ou (says o k s) := by
 obtain ⟨cs', g', hl, hc⟩ := h.g
 rw [g] at g'; cases g'
 refine ⟨_, g2, by simp [hl], fun j hj => ?_⟩
 unfold jn.says
 by_cases cj : j = k
 · subst cj
   rw [if_pos rfl]
   refine ⟨?_, ?_, ?_⟩
   · rw [List.getElem?_set_ne (by omega), List.getElem?_set_ne (by omega), List.getElem?_set_self (by omega)]; rfl
   · rw [List.getElem?_set_ne (by omega), List.getElem?_set_self (by simp; omega)]; rfl
   · rw [List.getElem?_set_self (by simp; omega), hb]; rfl
 · rw [if_neg cj]
   obtain ⟨a, b, c⟩ := hc j hj
   refine ⟨?_, ?_, ?_⟩
   all_goals (rw [List.getElem?_set_ne (by omega), List.getElem?_set_ne (by omega), List.getElem?_set_ne (by omega)]; assumption)
theorem says_len {o : Op} {k B : Nat} {s : List UInt8} (h : ∀ j, olen (o j) ≤ B) (hs : s.length ≤ B) (j : Nat) : olen (says o k s j) ≤ B := by
 unfold says
 split
 · exact hs
 · exact h j
end Go.Proofs.YtehdjkikcfeiaaaGreat.jn
namespace Go.Proofs.YtehdjkikcfeiaaaGreat.jn
open Go.Ab fr dk rg
set_option maxRecDepth 100000
set_option maxHeartbeats 8000000
set_option linter.unusedSimpArgs false
set_option linter.unusedVariables false
theorem jcnt_tok : ∀ (l : List (List UInt8)) (a : List Tk), ∀ p ∈ l.take (jcnt a l), tok p = true
 | [], _, p, hp => by simp at hp
 | q :: l, a, p, hp => by
  unfold jcnt at hp
  by_cases h : jgood a q
  · rw [if_pos h, Nat.add_comm, List.take_succ_cons] at hp
    rcases List.mem_cons.1 hp with rfl | hp
    · exact h.1
    · exact jcnt_tok l _ p hp
  · rw [if_neg h] at hp
    simp at hp
structure LOk (n : Nat) (L : List Tk) : Prop where
 c : ∀ x ∈ L, tchk x = 0
 n : L.length ≤ 90000 + n
theorem jopen_l {M : DM} {B : Nat} (hm : M.Ok B) (n : Nat) : LOk n (jopen M).2.1 := by
 have hrl : (M.read 0).1.length ≤ 1048576 := by
  unfold DM.read
  repeat' split
  all_goals first | (simp; done) | skip
  rename_i h1 _
  rw [see_in (by omega) (by omega)]
  exact (hm.f _ (by omega)).1.seen
 have h1 : LOk n ((jl (M.read 0).1).map tkp) := by
  have hfl := flen_scan _ (M.read 0).1 (Nat.le_refl _)
  have hln := len_flen12 (scan (M.read 0).1)
  have hle := jcnt_le (scan (M.read 0).1) []
  refine ⟨fun x hx => ?_, ?_⟩
  · obtain ⟨p, hp, rfl⟩ := List.mem_map.1 hx
    exact (of_decide_eq_true (jcnt_tok _ _ p hp)).2.2
  · unfold jl
    rw [List.length_map, List.length_take]
    omega
 have h0 : LOk n [] := ⟨by simp, by simp⟩
 unfold jopen
 repeat' split
 all_goals first | exact h0 | exact h1
theorem jadd_l {M : DM} {L : List Tk} {br : Int} {x : Tk} {n : Nat} (h : LOk n L) : LOk (n + 1) (jadd M L br x).2.1 := by
 have h1 : LOk (n + 1) L := ⟨h.c, by have := h.n; omega⟩
 unfold jadd
 split
 · exact h1
 split
 · exact h1
 rename_i _ hm
 have hx := (tmay_0 (show tmay L x = 0 by simpa using hm)).1
 have h2 : LOk (n + 1) (L ++ [x]) := ⟨fun y hy => by
  rcases List.mem_append.1 hy with hy | hy
  · exact h.c y hy
  · simp at hy; subst hy; exact hx, by have := h.n; simp; omega⟩
 repeat' split
 all_goals first | exact h1 | exact h2
theorem flen_jl (s : List UInt8) : flen (jl s) ≤ s.length := Nat.le_trans (flen_take_le _ _) (flen_scan _ s (Nat.le_refl _))
theorem jopen_0 {M : DM} (hp : M.power = -1) : (jopen M).2.2 = 0 := by
 have hp0 : M.power ≠ 0 := by omega
 unfold jopen
 rw [show M.read (0 : Int) = _ from read_n hp0 (n := 0) (by decide)]
 cases ht : (M.f 0).seen.there with
 | false => simp
 | true =>
  simp only [Bool.true_eq_false, if_false, (show ¬ ((0 : Int) = 4) by decide), ne_eq, not_true_eq_false]
  split
  · have hfl := flen_jl (M.f 0).seen.s
    have hm : M.may ((0 : Nat) : Int) ⟨2, [], flen (jl (M.f 0).seen.s)⟩ = 0 := by
     unfold DM.may
     rw [see_in (by omega) (by omega), Int.toNat_natCast]
     simp only [(show ¬ ((2 : Int) = 1) by decide), if_false, ht, Bool.true_eq_false, true_and]
     rw [if_neg (by omega)]
    have hch := change_y hp0 (f := 0) (by decide) hm
    rw [show M.change (0 : Int) _ = _ from hch]
    simp only [not_true_eq_false, if_false]
    have hsy := sync_y (M := (DM.dn M).upd ((0 : Nat) : Int) ((M.f 0).add ⟨2, [], flen (jl (M.f 0).seen.s)⟩)) (by simp [DM.upd, DM.dn, hp]) (f := 0) (by decide)
    rw [show DM.sync _ (0 : Int) = _ from hsy]
  · rfl
def NN (d w ro ou g jb r rj p : Nat) : Prop := p = d ∨ p = w ∨ p = g ∨ p = jb ∨ p = r ∨ p = rj ∨ p = ro ∨ p = ou
structure Dis (d w ro ou g jb r rj : Nat) : Prop where
 d_w : d ≠ w
 d_g : d ≠ g
 d_jb : d ≠ jb
 d_r : d ≠ r
 d_rj : d ≠ rj
 d_ro : d ≠ ro
 d_ou : d ≠ ou
 w_g : w ≠ g
 w_jb : w ≠ jb
 w_r : w ≠ r
 w_rj : w ≠ rj
 w_ro : w ≠ ro
 w_ou : w ≠ ou
 g_jb : g ≠ jb
 g_r : g ≠ r
 g_rj : g ≠ rj
 g_ro : g ≠ ro
 g_ou : g ≠ ou
 jb_r : jb ≠ r
 jb_rj : jb ≠ rj
 jb_ro : jb ≠ ro
 jb_ou : jb ≠ ou
 r_rj : r ≠ rj
 r_ro : r ≠ ro
 r_ou : r ≠ ou
 rj_ro : rj ≠ ro
 rj_ou : rj ≠ ou
 ro_ou : ro ≠ ou
structure GS (d w ro ou i : Nat) (σ : St) (g jb r rj : Nat) (M : DM) (L : List Tk) (jbr : Int) (S : List Sn) (br : Int) (o : Op) : Prop where
 dr : DR σ d M
 rr : dk.RR σ w M
 gr : GR σ g jb d L jbr S br
 gd : GD σ r rj w L jbr S br
 mo : M.Ok (2 + 5 * i)
 lo : LOk i L
 ds : Ds S
 sl : S.length ≤ i
 ri : RI σ ro (NN d w ro ou g jb r rj) o
 o6 : OU σ ou o
 ol : ∀ j, olen (o j) ≤ 16384 * i
 di : Dis d w ro ou g jb r rj
section
variable {d w ro ou i : Nat} {σ σ' : St} {g jb r rj : Nat} {M : DM} {L : List Tk} {jbr : Int} {S : List Sn} {br : Int} {o : Op}
theorem GS.kept0 (h : GS d w ro ou i σ g jb r rj M L jbr S br o) (k : Kept noX σ σ') : GS d w ro ou i σ' g jb r rj M L jbr S br o :=
 ⟨h.dr.kept k (fun h => h), h.rr.kept k (fun h => h), h.gr.kept0 k, h.gd.kept0 k, h.mo, h.lo, h.ds, h.sl, h.ri.kept k (fun h => h) (fun _ h => h.elim), h.o6.kept k (fun h => h), h.ol, h.di⟩
theorem GS.more (h : GS d w ro ou i σ g jb r rj M L jbr S br o) : GS d w ro ou (i + 1) σ g jb r rj M L jbr S br o :=
 ⟨h.dr, h.rr, h.gr, h.gd, h.mo.more (by omega), ⟨h.lo.c, by have := h.lo.n; omega⟩, h.ds, by have := h.sl; omega, h.ri, h.o6, fun j => by have := h.ol j; omega, h.di⟩
theorem GS.lt (h : GS d w ro ou i σ g jb r rj M L jbr S br o) (p : Nat) (hp : NN d w ro ou g jb r rj p) : p < σ.n := by
 obtain ⟨_, g1, _⟩ := h.gr.g
 obtain ⟨_, g2, _⟩ := h.gd.g
 obtain ⟨_, g3, _⟩ := h.ri.g
 obtain ⟨_, g4, _⟩ := h.o6.g
 have h1 := h.dr.lt
 have h2 := h.rr.lt
 have h3 := h.gr.j.lt
 have h4 := h.gd.j.lt
 have := St.get_lt g1
 have := St.get_lt g2
 have := St.get_lt g3
 have := St.get_lt g4
 unfold NN at hp
 omega
theorem GS.pro (h : GS d w ro ou i σ g jb r rj M L jbr S br o) (k : Kept (fun o => o = d ∨ o = jb ∨ o = g) σ σ') : dk.RR σ' w M ∧ GD σ' r rj w L jbr S br ∧ RI σ' ro (NN d w ro ou g jb r rj) o ∧ OU σ' ou o := by
 have di := h.di
 exact ⟨h.rr.kept k (by rintro (h | h | h); exact di.d_w.symm h; exact di.w_jb h; exact di.w_g h), h.gd.kept k (by rintro (h | h | h); exact di.d_r.symm h; exact di.jb_r.symm h; exact di.g_r.symm h) (by rintro (h | h | h); exact di.d_rj.symm h; exact di.jb_rj.symm h; exact di.g_rj.symm h), h.ri.kept k (by rintro (h | h | h); exact di.d_ro.symm h; exact di.jb_ro.symm h; exact di.g_ro.symm h) (by rintro q (rfl | rfl | rfl) <;> simp [NN]), h.o6.kept k (by rintro (h | h | h); exact di.d_ou.symm h; exact di.jb_ou.symm h; exact di.g_ou.symm h)⟩
theorem doc {M' : DM} {L' : List Tk} {jbr' br' : Int} {S' : List Sn} (di : Dis d w ro ou g jb r rj) (hd : DR σ d M') (hg : GR σ g jb d L' jbr' S' br') (hri : RI σ ro (NN d w ro ou g jb r rj) o) (hou : OU σ ou o) (hrr : dk.RR σ w M) (hgd : GD σ r rj w L jbr S br) (k : Kept (fun o => o = w ∨ o = rj ∨ o = r) σ σ') : DR σ' d M' ∧ GR σ' g jb d L' jbr' S' br' ∧ RI σ' ro (NN d w ro ou g jb r rj) o ∧ OU σ' ou o := by
 refine ⟨hd.kept k (by rintro (h | h | h); exact di.d_w h; exact di.d_rj h; exact di.d_r h), hg.kept k (by rintro (h | h | h); exact di.w_g.symm h; exact di.g_rj h; exact di.g_r h) (by rintro (h | h | h); exact di.w_jb.symm h; exact di.jb_rj h; exact di.jb_r h) ?_, hri.kept k (by rintro (h | h | h); exact di.w_ro.symm h; exact di.rj_ro.symm h; exact di.r_ro.symm h) (by rintro q (rfl | rfl | rfl) <;> simp [NN]), hou.kept k (by rintro (h | h | h); exact di.w_ou.symm h; exact di.rj_ou.symm h; exact di.r_ou.symm h)⟩
 rintro q (rfl | rfl | rfl)
 · obtain ⟨cs, g1, _⟩ := hrr; exact ⟨cs, g1⟩
 · obtain ⟨v, g1, _⟩ := hgd.j; exact ⟨_, g1⟩
 · obtain ⟨v, g1, _⟩ := hgd.g; exact ⟨_, g1⟩
theorem rng (di : Dis d w ro ou g jb r rj) (hd : DR σ d M) (hr : dk.RR σ w M) (hg : GR σ g jb d L jbr S br) (hy : GD σ r rj w L jbr S br) {X : Nat → Prop} (k : Kept X σ σ') (hX : ∀ p, X p → (∃ cs, σ.get p = some (.cells cs)) ∧ (p = ro ∨ p = ou ∨ ¬ NN d w ro ou g jb r rj p)) : DR σ' d M ∧ dk.RR σ' w M ∧ GR σ' g jb d L jbr S br ∧ GD σ' r rj w L jbr S br := by
 have no : ∀ p, p = d ∨ p = w ∨ p = g ∨ p = jb ∨ p = r ∨ p = rj → ¬ X p := fun p hp hx => by
  have hp2 : NN d w ro ou g jb r rj p := by unfold NN; rcases hp with h | h | h | h | h | h <;> simp [h]
  rcases (hX p hx).2 with h2 | h2 | h2
  · subst h2
    rcases hp with h | h | h | h | h | h
    · exact di.d_ro.symm h
    · exact di.w_ro.symm h
    · exact di.g_ro.symm h
    · exact di.jb_ro.symm h
    · exact di.r_ro.symm h
    · exact di.rj_ro.symm h
  · subst h2
    rcases hp with h | h | h | h | h | h
    · exact di.d_ou.symm h
    · exact di.w_ou.symm h
    · exact di.g_ou.symm h
    · exact di.jb_ou.symm h
    · exact di.r_ou.symm h
    · exact di.rj_ou.symm h
  · exact h2 hp2
 exact ⟨hd.kept k (no _ (by simp)), hr.kept k (no _ (by simp)), hg.kept k (no _ (by simp)) (no _ (by simp)) (fun p hp => (hX p hp).1), hy.kept k (no _ (by simp)) (no _ (by simp))⟩
end
theorem gdo_all {m : Ms} {o : Option (List UInt8)} {M : DM} {L : List Tk} {jbr br : Int} {S : List Sn} {B n : Nat} (hm : M.Ok B) (hl : LOk n L) (hs : Ds S) : (gdo m o M L jbr S br).M.Ok (B + 2) ∧ LOk (n + 1) (gdo m o M L jbr S br).L ∧ Ds (gdo m o M L jbr S br).S ∧ (gdo m o M L jbr S br).S.length ≤ S.length + 1 := by
 have h1 := jadd_ok hm L jbr (tkm m)
 have h2 := jadd_l (M := M) (br := jbr) (x := tkm m) hl
 have h3 : LOk (n + 1) L := ⟨hl.c, by have := hl.n; omega⟩
 have h4 := hm.more (C := B + 2) (by omega)
 have h5 : (gin m o M L jbr).M.Ok (B + 2) ∧ LOk (n + 1) (gin m o M L jbr).L := by
  unfold gin
  repeat' split
  all_goals first | exact ⟨h4, h3⟩ | exact ⟨h1, h2⟩
 unfold gdo
 repeat' split
 all_goals first | exact ⟨h4, h3, hs, Nat.le_succ _⟩ | exact ⟨h5.1, h5.2, hs, Nat.le_succ _⟩ | exact ⟨h5.1, h5.2, hs.sees _ _ _, sees_len _ _ _ _⟩
theorem says_self {o : Op} {k : Nat} {s : List UInt8} (h : o k = some s) : says o k s = o := by
 funext j
 unfold says
 split
 · subst_vars; exact h.symm
 · rfl
theorem says_says (o : Op) (k : Nat) (s t : List UInt8) : says (says o k s) k t = says o k t := by
 funext j
 unfold says
 split <;> simp_all
end Go.Proofs.YtehdjkikcfeiaaaGreat.jn
namespace Go.Proofs.YtehdjkikcfeiaaaGreat.jn
open Go.Ab fr dk rg
set_option maxRecDepth 100000
set_option maxHeartbeats 8000000
set_option linter.unusedSimpArgs false
set_option linter.unusedVariables false
theorem plays_run (k : Nat) (σ0 : St) (x : V) (l : List Stp) (h : Scr x l) (hk : 9223372036854775808 ≤ k) (σ1 : St) (hw : callY Tab.tb (k + 9) noYl 4 [] σ0 = some (.sc (.bool true), σ1)) :
  W (callY Tab.tb (k + 10) noYl 3 [x] σ0) fun r => r.1 = .sc (.bool true) := by
 rw [s_call (af := Tab.b3) rfl (Nat.le_of_ble_eq_true rfl)]
 have hnew := fun σ => dk.new_ok (k + 8) noYl σ
 have hrnew := fun σ => dk.rnew_ok (k + 8) noYl σ
 have hheavy := fun σ => heavy_ok (k + 8) noYl σ x l h (by omega)
 have hpow := fun σ d M n h => power_ok (k + 8) noYl σ d M n h
 have hopen := fun σ d M h B hm hB => gopen_ok (B := B) (k + 2) noYl σ d M h hm hB (by omega)
 have hropen := fun σ d M h B hm hB => rgopen_ok (B := B) (k + 1) noYl σ d M h hm hB (by omega)
 have hdo := fun σ g jb d m o L M jbr br S rv h hd B hm hB hen hr ho hc hL hne => do_ok (g := g) (jb := jb) (d := d) (m := m) (o := o) (L := L) (M := M) (jbr := jbr) (br := br) (S := S) (rv := rv) (B := B) (k + 1) noYl σ h hd hm hB hen hr ho hc hL hne (by omega)
 have hrdo := fun σ r rj w m o L M jbr br S h hd B hm hB hen ho hS hSl hc hL hne => rdo_ok (r := r) (rj := rj) (w := w) (m := m) (o := o) (L := L) (M := M) (jbr := jbr) (br := br) (S := S) (B := B) (k + 1) noYl σ h hd hm hB hen ho hS hSl hc hL hne (by omega)
 have hcra := fun σ d M kv ks torn h hkv B hm hB => crash_ok (B := B) (k + 6) noYl σ d M kv ks torn h hkv hm hB (by omega)
 have hrcra := fun σ d M kv ks torn h hkv B hm hB => rcrash_ok (B := B) (k + 7) noYl σ d M kv ks torn h hkv hm hB (by omega)
 have hops := fun σ d M h => ops_ok (k + 8) noYl σ d M h
 have hlist := fun σ g jb d L jbr S br hj hl => list_ok (k + 6) noYl σ g jb d L jbr S br hj (by omega) hl
 have hsame := fun σ va vb L ha hb hl => same_ok (k + 8) noYl σ va vb L ha hb (by omega) hl
 have hrt := fun σ g jb d L jbr S br t h hc hL => Right_ok (k + 6) noYl σ g jb d L jbr S br t h hc hL (by omega)
 have hrrt := fun σ r rj w L jbr S br t h hS hSl hc hL => rright_ok (k + 7) noYl σ r rj w L jbr S br t h hS hSl hc hL (by omega)
 have h17 := fun σ m h => same17_ok (k + 7) noYl σ m h (by omega)
 have hring := fun σ => rg.rnew_ok (k + 8) noYl σ
 have hput := fun σ p s x h hs hx => rg.put_ok (k + 8) noYl σ p s x h hs (show x.length + 10 ≤ k + 8 by omega)
 generalize callY Tab.tb (k + 9) = cy at hw hnew hrnew hheavy hpow hopen hropen hdo hrdo hcra hrcra hops hlist hsame hrt hrrt h17 hring hput ⊢
 have hlen := h.rv.len
 rw [List.length_map] at hlen
 have hsize := h.rv.size
 simp -implicitDefEqProofs (disch := first | exact nbf rfl | exact nbt rfl | (simp only [zN.down, reduceCtorEq] <;> omega) | omega) only [Tab.b3, hw, XOp.kind, AOp.kind, zU.down, simprocAttr]
 repeat first | apply w_fin | apply w_seq | apply w_block | apply w_reg | apply w_op | apply w_dop
 refine (hheavy σ1).mono ?_
 rintro ⟨_, σ2⟩ ⟨hb, rfl, _, hh⟩
 cases hb with
 | true => simp -implicitDefEqProofs (disch := first | exact nbf rfl | exact nbt rfl | (simp only [zN.down, reduceCtorEq] <;> omega) | omega) only [XOp.kind, AOp.kind, zU.down, simprocAttr]
 | false =>
 obtain ⟨hl120, hs⟩ := hh rfl
 simp -implicitDefEqProofs (disch := first | exact nbf rfl | exact nbt rfl | (simp only [zN.down, reduceCtorEq] <;> omega) | omega) only [XOp.kind, AOp.kind, zU.down, simprocAttr]
 repeat first | apply w_fin | apply w_seq | apply w_block | apply w_reg | apply w_op | apply w_dop
 refine (hnew σ2).mono ?_
 rintro ⟨_, σ3⟩ ⟨rfl, hd3, _, hn3⟩
 dsimp only at hd3 hn3
 simp -implicitDefEqProofs (disch := first | exact nbf rfl | exact nbt rfl | (simp only [zN.down, reduceCtorEq] <;> omega) | omega) only [XOp.kind, AOp.kind, zU.down, simprocAttr]
 repeat first | apply w_fin | apply w_seq | apply w_block | apply w_reg | apply w_op | apply w_dop
 refine (hrnew σ3).mono ?_
 rintro ⟨_, σ4⟩ ⟨rfl, hr4, k4, hn4⟩
 dsimp only at hr4 k4 hn4
 have hd4 := hd3.kept k4 (fun h => h)
 have hdw : σ2.n ≠ σ3.n := by omega
 have ld : σ2.n < σ4.n := by omega
 have lw : σ3.n < σ4.n := by omega
 generalize σ2.n = d at *
 generalize σ3.n = w at *
 have zz := jopen_0 (M := D0) rfl
 have hM0 := jopen_ok (DM.Ok.zero 0)
 have hL0 := jopen_l (DM.Ok.zero 0) 0
 simp -implicitDefEqProofs (disch := first | exact nbf rfl | exact nbt rfl | (simp only [zN.down, reduceCtorEq] <;> omega) | omega) only [XOp.kind, AOp.kind, zU.down, simprocAttr]
 repeat first | apply w_fin | apply w_seq | apply w_block | apply w_reg | apply w_op | apply w_dop
 refine (hopen σ4 d D0 hd4 0 (DM.Ok.zero 0) (by omega)).mono ?_
 rintro ⟨_, σ5⟩ ⟨g, jb, rfl, hg5, hd5, k5⟩
 dsimp only at hg5 hd5 k5
 obtain ⟨hg5, hjn, hgj⟩ := hg5 zz
 rw [if_pos zz, zz]
 have hr5 := hr4.kept k5 (fun h => hdw h.symm)
 have lg5 : g < σ5.n := by obtain ⟨_, q, _⟩ := hg5.g; exact St.get_lt q
 simp -implicitDefEqProofs (disch := first | exact nbf rfl | exact nbt rfl | (simp only [zN.down, reduceCtorEq] <;> omega) | omega) only [XOp.kind, AOp.kind, zU.down, simprocAttr]
 repeat first | apply w_fin | apply w_seq | apply w_block | apply w_reg | apply w_op | apply w_dop
 refine (hropen σ5 w D0 hr5 0 (DM.Ok.zero 0) (by omega)).mono ?_
 rintro ⟨_, σ6⟩ ⟨r, rj, rfl, hy6, hr6, k6⟩
 dsimp only at hy6 hr6 k6
 obtain ⟨hy6, hrn, hrj⟩ := hy6 zz
 rw [if_pos zz, zz]
 have hd6 := hd5.kept k6 hdw
 have lr6 : r < σ6.n := by obtain ⟨_, q, _⟩ := hy6.g; exact St.get_lt q
 have hg6 := hg5.kept k6 (by omega) (by omega) (by
  rintro _ rfl
  obtain ⟨cs, q, _⟩ := hr5
  exact ⟨cs, q⟩)
 generalize hO : jopen D0 = O at *
 have gs0 : GS d w σ6.n (σ6.n + 1) 0 ((σ6.push (.cells [.sc .nilP, .sc .nilP])).push (.cells [.sc (.bool false), .str [], .sc (.int .i64 0), .sc (.bool false), .str [], .sc (.int .i64 0)])) g jb r rj O.1 O.2.1 0 [] 0 (fun _ => none) := by
  have kp : Kept noX σ6 ((σ6.push (.cells [.sc .nilP, .sc .nilP])).push (.cells [.sc (.bool false), .str [], .sc (.int .i64 0), .sc (.bool false), .str [], .sc (.int .i64 0)])) := ((Kept.refl _ _).push _).push _
  refine ⟨hd6.kept kp (fun h => h), hr6.kept kp (fun h => h), hg6.kept0 kp, hy6.kept0 kp, hM0.more (by omega), hL0, List.Pairwise.nil, Nat.le_refl _, ⟨_, get_push_lt get_push_self, rfl, fun j hj => ?_, fun a b p hab h1 => ?_⟩, ⟨_, get_push_eq (by simp), rfl, fun j hj => ?_⟩, fun j => Nat.zero_le _, ?_⟩
  · rcases (show j = 0 ∨ j = 1 by omega) with rfl | rfl <;> exact ⟨_, rfl, rfl, fun p hp => by cases hp⟩
  · rcases Nat.lt_or_ge a 2 with q | q
    · rcases (show a = 0 ∨ a = 1 by omega) with rfl | rfl <;> cases h1
    · rw [List.getElem?_eq_none (by simpa using q)] at h1; cases h1
  · rcases (show j = 0 ∨ j = 1 by omega) with rfl | rfl <;> exact ⟨rfl, rfl, rfl⟩
  · constructor <;> omega
 clear hg6 hy6 hr6 hd6 hM0 hL0 hd5 hr5 hg5 hd4 hr4 hd3
 simp -implicitDefEqProofs (disch := first | exact nbf rfl | exact nbt rfl | (simp only [zN.down, reduceCtorEq] <;> omega) | omega) only [hlen, XOp.kind, AOp.kind, zU.down, simprocAttr]
 repeat first | apply w_fin | apply w_seq | apply w_block | apply w_reg | apply w_op | apply w_dop
 generalize hro : σ6.n = ro at *
 generalize hou : ro + 1 = ou at *
 generalize ((σ6.push (.cells [.sc .nilP, .sc .nilP])).push (.cells [.sc (.bool false), .str [], .sc (.int .i64 0), .sc (.bool false), .str [], .sc (.int .i64 0)])) = σ7 at *
 clear k4 k5 k6 zz hO hdw
 refine W.mono (Q := fun r => ∃ (ρ : Env) (σ : St), r = ((.exit 0 : Ex), ρ, σ)) ?_ ?_
 · refine w_loop (fun m ρ' σ => ∃ (i g jb r rj : Nat) (M : DM) (L : List Tk) (jbr : Int) (S : List Sn) (br : Int) (o : Op), m = l.length - i ∧ i ≤ l.length ∧ GS d w ro ou i σ g jb r rj M L jbr S br o ∧ ρ' 3 = .ptr d 0 ∧ ρ' 4 = .ptr w 0 ∧ ρ' 5 = .ptr g 0 ∧ ρ' 6 = .sc (.int .i64 0) ∧ ρ' 7 = .ptr r 0 ∧ ρ' 8 = .sc (.int .i64 0) ∧ ρ' 9 = .ptr ro 0 ∧ ρ' 10 = .ptr ou 0 ∧ ρ' 43 = x ∧ ρ' 44 = .sc (.int .i64 l.length) ∧ ρ' 45 = .sc (.int .i64 i)) l.length (by omega) ?_ ?_
   · refine ⟨0, g, jb, r, rj, O.1, O.2.1, 0, [], 0, fun _ => none, rfl, Nat.zero_le _, gs0, ?_, ?_, ?_, ?_, ?_, ?_, ?_, ?_, ?_, ?_, ?_⟩
     all_goals first | rfl | (simp -implicitDefEqProofs (disch := first | exact nbf rfl | exact nbt rfl | (simp only [zN.down, reduceCtorEq] <;> omega) | omega) only [XOp.kind, AOp.kind, zU.down, simprocAttr]; done) | (simp -implicitDefEqProofs (disch := first | exact nbf rfl | exact nbt rfl | (simp only [zN.down, reduceCtorEq] <;> omega) | omega) only [XOp.kind, AOp.kind, zU.down, simprocAttr]; rfl)
   · clear gs0 hjn hgj hrn hrj lg5 lr6 ld lw
     rintro m ρ σ ⟨i, g, jb, r, rj, M, L, jbr, S, br, o, hm, hi, hG, e3, e4, e5, e6, e7, e8, e9, e10, e43, e44, e45⟩
     by_cases hl : i < l.length
     · have d1 : decide ((i : Int) < (l.length : Int)) = true := by simpa using hl
       obtain ⟨a1, a2, a3⟩ := h.at hl
       have hpo := h.ok _ (List.getElem_mem hl)
       have hsl := hs _ (List.getElem_mem hl)
       have w3 : IntKind.i64.wrap ((i : Int) + 1) = ((i + 1 : Nat) : Int) := wrap64 (by omega) (by omega)
       generalize l[i] = p at *
       have hec := hpo.en
       unfold Cell1 at hec
       have hne2 : ∀ a : Int, (a != a) = false := fun a => by simp
       have kb : Kept noX σ σ.bump := (Kept.refl noX σ).bump
       have hGb := hG.kept0 kb
       have ha3 := a3
       simp only [stc, mc, List.cons_append, List.nil_append] at ha3
       have nd := i_and1 p.n
       have nt := i_and1 p.m.talk
       obtain ⟨kn, hkn, hkn2⟩ : ∃ kk : Nat, (p.n % 2).toNat = kk ∧ kk < 2 := ⟨_, rfl, by omega⟩
       rw [hkn] at nd
       iterate 5 rw [s_seq]; simp -implicitDefEqProofs (disch := first | exact nbf rfl | exact nbt rfl | (simp only [zN.down, reduceCtorEq] <;> omega) | omega) only [d1, e3, e4, e5, e6, e7, e8, e9, e10, e43, e44, e45, a1, a2, ha3, hsize, hec.1, hec.2, nd, w3, XOp.kind, s_nil, s_cons, s_consG, s_op, s_gtt, s_gff, s_gtf, s_gft, s_region, s_reg, s_seqn, s_seqr, s_seqe, s_skip, s_ret, s_exit, s_cond, s_condt, s_condf, s_block, s_blockn, s_blockr, s_blocke, s_finr, s_finn, Option.map_some, Option.map_none, upd_o, upd_s, ne_eq, not_false_eq_true, List.getElem?_cons_zero, List.getElem?_cons_succ, Option.getD_some, Bool.false_eq_true, if_false, if_true, List.mapM_cons, List.mapM_nil, Option.bind_eq_bind, Option.bind_some, Option.pure_def, beq_tt, beq_tf, beq_ft, beq_ff, Bool.not_true, Bool.not_false, Nat.succ_ne_zero, List.map_cons, List.map_nil, BEq.rfl, c_agg, c_sc, c_str, c_ptr, c_elt, c_vs, c_os, c_mp, c_fn, o_sc, o_str, o_ptr, o_elt, o_vs, o_os, o_mp, o_fn, not_true_eq_false, x_reg, x_rput, p_agg, St.get_bump, St.n_bump, c_ifc, o_ifc, List.all_cons, List.all_nil, Bool.and_true, Bool.and_self, List.drop_succ_cons, List.drop_zero, List.take_succ_cons, List.take_zero, List.length_cons, List.length_nil, Nat.zero_add, Nat.add_zero, Nat.mul_one, List.cons_append, List.nil_append, St.n_push, St.n_put, get_push_eq, get_push_ne, get_put_eq, get_put_ne, w_some, Nat.le_refl, true_and, and_true, and_self, List.append_nil, b_add, b_sub, b_mul, b_quo, b_rem, b_and, b_or, b_xor, b_eql, b_neq, b_lss, b_leq, b_gtr, b_geq, Int.cast_ofNat_Int, Int.toNat_zero, Int.toNat_one, decide_true, decide_false, bne_self_eq_false, d_draw, d_nil, d_e, d_cons, d_consG, d_op, d_gtt, d_gff, d_gtf, d_gft, AOp.kind, Bool.true_and, s_gu, d_gu, zQ.down, zR.down, zS.down, zT.down, simprocAttr]
       rw [s_seq]
       refine w_seq (w_block (w_seq ?_))
       refine W.mono (Q := fun q => ∃ (ρ' : Env) (σ' : St) (g' jb' r' rj' : Nat) (M' : DM) (L' : List Tk) (jbr' : Int) (S' : List Sn) (br' : Int) (o' : Op), q = ((.normal : Ex), ρ', σ') ∧ GS d w ro ou (i + 1) σ' g' jb' r' rj' M' L' jbr' S' br' o' ∧ ρ' 3 = .ptr d 0 ∧ ρ' 4 = .ptr w 0 ∧ ρ' 5 = .ptr g' 0 ∧ ρ' 6 = .sc (.int .i64 0) ∧ ρ' 7 = .ptr r' 0 ∧ ρ' 8 = .sc (.int .i64 0) ∧ ρ' 9 = .ptr ro 0 ∧ ρ' 10 = .ptr ou 0 ∧ ρ' 43 = x ∧ ρ' 44 = .sc (.int .i64 l.length) ∧ ρ' 45 = .sc (.int .i64 i) ∧ ρ' 12 = .agg (stc p)) ?_ ?_
       · have di := hGb.di
         have hLn := hGb.lo.n
         have hSl := hGb.sl
         have hol := hGb.ol
         by_cases q0 : p.k = 0
         · have c0 := beq_iff_eq.2 q0
           obtain ⟨kk, hkk, hk2⟩ : ∃ kk : Nat, (p.m.talk % 2).toNat = kk ∧ kk < 2 := ⟨_, rfl, by omega⟩
           rw [hkk] at nt
           obtain ⟨cs, v, gro, csl, hcv, hrp, hsep⟩ := hGb.ri.at hk2
           obtain ⟨os, gou, osl, hov, _⟩ := hGb.o6.at hk2
           have ar1 : aArrAddr 2 1 (.ptr ro 0) (.sc (.int .i64 kk)) = some (.ptr ro kk) := by have := arr_ok (o := ro) (off := 0) (len := 2) (sz := 1) hk2; simpa using this
           have ar3 : aArrAddr 2 3 (.ptr ou 0) (.sc (.int .i64 kk)) = some (.ptr ou (kk * 3)) := by have := arr_ok (o := ou) (off := 0) (len := 2) (sz := 3) hk2; simpa using this
           have ol3 : (kk * 3 + 3 ≤ os.length) = True := by simp only [eq_iff_iff, iff_true]; omega
           have hrc := hrp.cell
           have olk : olen (o kk) ≤ 1099511627776 := by have := hol kk; omega
           have f1 := hdo σ.bump g jb d p.m (o kk) L M jbr br S v hGb.gr hGb.dr _ hGb.mo (by omega) hpo.en hrp olk hGb.lo.c (by omega) ⟨di.d_jb.symm, di.d_g.symm, di.g_jb⟩
           have f2 := fun σ h hd => hrdo σ r rj w p.m (o kk) L M jbr br S h hd _ hGb.mo (by omega) hpo.en olk hGb.ds (by omega) hGb.lo.c (by omega) ⟨di.w_rj.symm, di.w_r.symm, di.r_rj.symm⟩
           have hga := gdo_all (m := p.m) (o := o kk) (jbr := jbr) (br := br) hGb.mo hGb.lo hGb.ds
           have hae := gdo_en p.m (o kk) M L jbr S br
           have f3 := fun σ => h17 σ (gdo p.m (o kk) M L jbr S br).a hae
           generalize gdo p.m (o kk) M L jbr S br = G at *
           simp only [mc, hae] at f1 f2 f3
           obtain ⟨hg1, hg2, hg3, hg4⟩ := hga
           have gro' : σ.get ro = some (.cells cs) := by have := gro; rwa [St.get_bump] at this
           simp -implicitDefEqProofs (disch := first | exact nbf rfl | exact nbt rfl | (simp only [zN.down, reduceCtorEq] <;> omega) | omega) only [c0, e3, e4, e5, e6, e7, e8, e9, e10, e43, e44, e45, nt, gro', ar1, hcv, hrc.1, hrc.2, hec.1, hec.2, dk.pnil, XOp.kind, AOp.kind, zP.down, zQ.down, zR.down, zS.down, simprocAttr]
           repeat first | apply w_fin | apply w_seq | apply w_block | apply w_reg | apply w_op | apply w_dop
           refine f1.mono ?_
           rintro ⟨_, σ5⟩ ⟨rfl, hgg5, hd5, k5⟩
           dsimp only at hgg5 hd5 k5
           obtain ⟨hr5, hy5, hri5, hou5⟩ := hGb.pro k5
           have gou5 := k5.get _ _ (by rintro (h | h | h); exact di.d_ou.symm h; exact di.jb_ou.symm h; exact di.g_ou.symm h) gou
           have k56 : Kept noX σ5 σ5.bump := (Kept.refl noX σ5).bump
           simp -implicitDefEqProofs (disch := first | exact nbf rfl | exact nbt rfl | (simp only [zN.down, reduceCtorEq] <;> omega) | omega) only [e3, e4, e5, e6, e7, e8, e9, e10, e43, e44, e45, nt, gou5, ar3, ol3, hov, hec.1, hec.2, hae, XOp.kind, aEqV, AOp.kind, zP.down, zQ.down, zR.down, zS.down, simprocAttr]
           repeat first | apply w_fin | apply w_seq | apply w_block | apply w_reg | apply w_op | apply w_dop
           refine (f2 _ (hy5.kept0 k56) (hr5.kept k56 (fun h => h))).mono ?_
           rintro ⟨_, σ6⟩ ⟨rfl, hy6, hr6, k6⟩
           dsimp only at hy6 hr6 k6
           obtain ⟨hd6, hgg6, hri6, hou6⟩ := doc di (hd5.kept k56 (fun h => h)) (hgg5.kept0 k56) (hri5.kept k56 (fun h => h) (fun _ h => h.elim)) (hou5.kept k56 (fun h => h)) (hr5.kept k56 (fun h => h)) (hy5.kept0 k56) k6
           have hG6 : GS d w ro ou (i + 1) σ6 g jb r rj G.M G.L G.jbr G.S G.br o := ⟨hd6, hr6, hgg6, hy6, hg1.more (by omega), hg2, hg3, by omega, hri6, hou6, fun j => by have := hol j; omega, di⟩
           simp -implicitDefEqProofs (disch := first | exact nbf rfl | exact nbt rfl | (simp only [zN.down, reduceCtorEq] <;> omega) | omega) only [e3, e4, e5, e6, e7, e8, e9, e10, e43, e44, e45, hae, XOp.kind, AOp.kind, zU.down, simprocAttr]
           repeat first | apply w_fin | apply w_seq | apply w_block | apply w_reg | apply w_op | apply w_dop
           refine (f3 _).mono ?_
           rintro ⟨_, σ7⟩ ⟨rfl, k7⟩
           dsimp only at k7
           have hG7 := hG6.kept0 ((Kept.refl noX σ6).bump.trans k7)
           simp -implicitDefEqProofs (disch := first | exact nbf rfl | exact nbt rfl | (simp only [zN.down, reduceCtorEq] <;> omega) | omega) only [e3, e4, e5, e6, e7, e8, e9, e10, e43, e44, e45, hne2, XOp.kind, AOp.kind, zU.down, simprocAttr]
           refine ⟨_, _, g, jb, r, rj, G.M, G.L, G.jbr, G.S, G.br, o, rfl, hG7, ?_, ?_, ?_, ?_, ?_, ?_, ?_, ?_, ?_, ?_, ?_, ?_⟩
           all_goals ((try simp only [stc, mc, List.cons_append, List.nil_append]); simp -implicitDefEqProofs (disch := first | exact nbf rfl | exact nbt rfl | (simp only [zN.down, reduceCtorEq] <;> omega) | omega) only [e3, e4, e5, e6, e7, e8, e9, e10, e43, e44, e45, XOp.kind, AOp.kind, zU.down, simprocAttr]; done)
         have c0 := beq_eq_false_iff_ne.2 q0
         by_cases q1 : p.k = 1
         · have c1 := beq_iff_eq.2 q1
           obtain ⟨cs, v, gro, csl, hcv, hrp, hsep⟩ := hGb.ri.at hkn2
           have gro' : σ.get ro = some (.cells cs) := by have := gro; rwa [St.get_bump] at this
           have ar1 : aArrAddr 2 1 (.ptr ro 0) (.sc (.int .i64 kn)) = some (.ptr ro kn) := by have := arr_ok (o := ro) (off := 0) (len := 2) (sz := 1) hkn2; simpa using this
           have ar3 : aArrAddr 2 3 (.ptr ou 0) (.sc (.int .i64 kn)) = some (.ptr ou (kn * 3)) := by have := arr_ok (o := ou) (off := 0) (len := 2) (sz := 3) hkn2; simpa using this
           have hrc := hrp.cell
           have cl1 : (kn + 1 ≤ cs.length) = True := by simp only [eq_iff_iff, iff_true]; omega
           iterate 3 rw [s_seq]; simp -implicitDefEqProofs (disch := first | exact nbf rfl | exact nbt rfl | (simp only [zN.down, reduceCtorEq] <;> omega) | omega) only [c0, c1, e3, e4, e5, e6, e7, e8, e9, e10, e43, e44, e45, XOp.kind, s_nil, s_cons, s_consG, s_op, s_gtt, s_gff, s_gtf, s_gft, s_region, s_reg, s_seqn, s_seqr, s_seqe, s_skip, s_ret, s_exit, s_cond, s_condt, s_condf, s_block, s_blockn, s_blockr, s_blocke, s_finr, s_finn, Option.map_some, Option.map_none, upd_o, upd_s, ne_eq, not_false_eq_true, List.getElem?_cons_zero, List.getElem?_cons_succ, Option.getD_some, Bool.false_eq_true, if_false, if_true, List.mapM_cons, List.mapM_nil, Option.bind_eq_bind, Option.bind_some, Option.pure_def, beq_tt, beq_tf, beq_ft, beq_ff, Bool.not_true, Bool.not_false, Nat.succ_ne_zero, List.map_cons, List.map_nil, BEq.rfl, c_agg, c_sc, c_str, c_ptr, c_elt, c_vs, c_os, c_mp, c_fn, o_sc, o_str, o_ptr, o_elt, o_vs, o_os, o_mp, o_fn, not_true_eq_false, x_reg, x_rput, p_agg, St.get_bump, St.n_bump, c_ifc, o_ifc, List.all_cons, List.all_nil, Bool.and_true, Bool.and_self, List.drop_succ_cons, List.drop_zero, List.take_succ_cons, List.take_zero, List.length_cons, List.length_nil, Nat.zero_add, Nat.add_zero, Nat.mul_one, List.cons_append, List.nil_append, St.n_push, St.n_put, get_push_eq, get_push_ne, get_put_eq, get_put_ne, w_some, Nat.le_refl, true_and, and_true, and_self, List.append_nil, b_add, b_sub, b_mul, b_quo, b_rem, b_and, b_or, b_xor, b_eql, b_neq, b_lss, b_leq, b_gtr, b_geq, Int.cast_ofNat_Int, Int.toNat_zero, Int.toNat_one, decide_true, decide_false, bne_self_eq_false, d_draw, d_nil, d_e, d_cons, d_consG, d_op, d_gtt, d_gff, d_gtf, d_gft, AOp.kind, Bool.true_and, s_gu, d_gu, zQ.down, zR.down, zS.down, zT.down, simprocAttr]
           rw [s_seq]
           refine w_block (w_seq ?_)
           have kro : ∀ q, ro = q → ¬ NN d w ro ou g jb r rj q → False := fun q hq hn => hn (by unfold NN; simp [hq])
           have koq : ∀ q, ou = q → ¬ NN d w ro ou g jb r rj q → False := fun q hq hn => hn (by unfold NN; simp [hq])
           refine W.mono (Q := fun z => ∃ (ρ' : Env) (σ' : St) (cs' : List V) (q : Nat) (s : List UInt8), z = ((.normal : Ex), ρ', σ') ∧ s = (o kn).getD [] ∧ RI σ' ro (NN d w ro ou g jb r rj) (says o kn s) ∧ σ'.get ro = some (.cells cs') ∧ cs'[kn]? = some (.ptr q 0) ∧ RG σ' q s ∧ ¬ NN d w ro ou g jb r rj q ∧ Kept (· = ro) σ.bump σ' ∧ ρ' 3 = .ptr d 0 ∧ ρ' 4 = .ptr w 0 ∧ ρ' 5 = .ptr g 0 ∧ ρ' 6 = .sc (.int .i64 0) ∧ ρ' 7 = .ptr r 0 ∧ ρ' 8 = .sc (.int .i64 0) ∧ ρ' 9 = .ptr ro 0 ∧ ρ' 10 = .ptr ou 0 ∧ ρ' 43 = x ∧ ρ' 44 = .sc (.int .i64 l.length) ∧ ρ' 45 = .sc (.int .i64 i) ∧ ρ' 12 = .agg (stc p) ∧ ρ' 13 = .sc (.int .i64 kn)) ?_ ?_
           · cases ho : o kn with
             | none =>
              rw [ho] at hrp
              cases hrp
              have hnn : ∀ σ, aEqV σ .ptr (.sc .nilP) (.sc .nilP) = some true := fun σ => rfl
              have hR := hring σ.bump
              have hlt := hGb.lt
              have hnw := fun σ' k1 hr => RI.new (σ' := σ') hGb.ri hkn2 gro k1 hr hlt (show NN d w ro ou g jb r rj ro by unfold NN; simp)
              generalize hq : σ.bump.n = q at *
              simp -implicitDefEqProofs (disch := first | exact nbf rfl | exact nbt rfl | (simp only [zN.down, reduceCtorEq] <;> omega) | omega) only [e3, e4, e5, e6, e7, e8, e9, e10, e43, e44, e45, gro', ar1, hcv, hnn, XOp.kind, AOp.kind, zP.down, zQ.down, zR.down, zS.down, simprocAttr]
              repeat first | apply w_fin | apply w_seq | apply w_block | apply w_reg | apply w_op | apply w_dop
              refine hR.mono ?_
              rintro ⟨_, σ5⟩ ⟨rfl, hg5, k5, n5⟩
              dsimp only at hg5 k5 n5
              have gro5 := k5.get _ _ (fun h => h) gro
              have lr := St.get_lt gro5
              simp -implicitDefEqProofs (disch := first | exact nbf rfl | exact nbt rfl | (simp only [zN.down, reduceCtorEq] <;> omega) | omega) only [e3, e4, e5, e6, e7, e8, e9, e10, e43, e44, e45, dk.pnil, gro5, ar1, cl1, XOp.kind, AOp.kind, zP.down, zQ.down, zR.down, zS.down, simprocAttr]
              have kk : Kept (· = ro) σ5 (σ5.put ro (some (.cells (cs.set kn (.ptr q 0))))) := Kept.put (X := (· = ro)) (Kept.refl _ _) (.inl rfl) lr _
              have hqn : ¬ NN d w ro ou g jb r rj q := fun hx => by have := hlt q hx; omega
              refine ⟨_, _, _, q, [], rfl, rfl, hnw σ5 k5 hg5, get_put_self gro5, by simp [csl, hkn2], hg5.kept kk (fun h => kro q h.symm hqn), hqn, k5.any.trans kk, ?_, ?_, ?_, ?_, ?_, ?_, ?_, ?_, ?_, ?_, ?_, ?_, ?_⟩
              all_goals ((try simp only [stc, mc, List.cons_append, List.nil_append]); simp -implicitDefEqProofs (disch := first | exact nbf rfl | exact nbt rfl | (simp only [zN.down, reduceCtorEq] <;> omega) | omega) only [e3, e4, e5, e6, e7, e8, e9, e10, e43, e44, e45, XOp.kind, AOp.kind, zU.down, simprocAttr]; done)
             | some s =>
              rw [ho] at hrp
              obtain ⟨q, rfl, hrg⟩ := hrp
              simp -implicitDefEqProofs (disch := first | exact nbf rfl | exact nbt rfl | (simp only [zN.down, reduceCtorEq] <;> omega) | omega) only [e3, e4, e5, e6, e7, e8, e9, e10, e43, e44, e45, gro', ar1, hcv, dk.pnil, XOp.kind, AOp.kind, zP.down, zQ.down, zR.down, zS.down, simprocAttr]
              refine ⟨_, _, cs, q, s, rfl, rfl, by rw [says_self ho]; exact hGb.ri, gro, hcv, hrg, hsep q rfl, Kept.refl _ _, ?_, ?_, ?_, ?_, ?_, ?_, ?_, ?_, ?_, ?_, ?_, ?_, ?_⟩
              all_goals ((try simp only [stc, mc, List.cons_append, List.nil_append]); simp -implicitDefEqProofs (disch := first | exact nbf rfl | exact nbt rfl | (simp only [zN.down, reduceCtorEq] <;> omega) | omega) only [e3, e4, e5, e6, e7, e8, e9, e10, e43, e44, e45, XOp.kind, AOp.kind, zU.down, simprocAttr]; done)
           clear e3 e4 e5 e6 e7 e8 e9 e10 e43 e44 e45 hrc hrp hcv gro gro' cl1 csl hsep
           rintro _ ⟨ρ, σ5, cs', q, s, rfl, hso, hri5, gro, hcv, hrg, hqn, k5, e3, e4, e5, e6, e7, e8, e9, e10, e43, e44, e45, e12, e13⟩
           obtain ⟨hd5, hr5, hgg5, hy5⟩ := rng di hGb.dr hGb.rr hGb.gr hGb.gd k5 (by
            rintro _ rfl
            obtain ⟨cs, gro0, _⟩ := hGb.ri.g
            exact ⟨⟨cs, gro0⟩, .inl rfl⟩)
           have hou5 := hGb.o6.kept k5 (by rintro (h); exact di.ro_ou.symm h)
           have hsl2 : s.length ≤ 16384 * i := by rw [hso]; exact hol kn
           simp only [stc, mc, List.cons_append, List.nil_append] at e12
           simp -implicitDefEqProofs (disch := first | exact nbf rfl | exact nbt rfl | (simp only [zN.down, reduceCtorEq] <;> omega) | omega) only [e3, e4, e5, e6, e7, e8, e9, e10, e43, e44, e45, e12, e13, gro, ar1, hcv, XOp.kind, aEqV, AOp.kind, zP.down, zQ.down, zR.down, zS.down, simprocAttr]
           repeat first | apply w_fin | apply w_seq | apply w_block | apply w_reg | apply w_op | apply w_dop
           refine (hput σ5 q s p.s hrg (by omega) (by omega)).mono ?_
           rintro ⟨_, σ6⟩ ⟨hrg6, k6⟩
           dsimp only at hrg6 k6
           have hri6 := RI.put hri5 hkn2 gro hcv k6 hrg6 (show NN d w ro ou g jb r rj ro by unfold NN; simp)
           rw [says_says] at hri6
           obtain ⟨hd6, hr6, hgg6, hy6⟩ := rng di hd5 hr5 hgg5 hy5 k6 (by
            rintro _ rfl
            obtain ⟨cs, g0, _⟩ := hrg
            exact ⟨⟨cs, g0⟩, .inr (.inr hqn)⟩)
           have hou6 := hou5.kept k6 (fun h => koq q h hqn)
           obtain ⟨os, gou, osl, _, hos⟩ := hou6.at hkn2
           have ol1 : (kn * 3 + 1 ≤ os.length) = True := by simp only [eq_iff_iff, iff_true]; omega
           have ol2 : (kn * 3 + 1 + 1 ≤ os.length) = True := by simp only [eq_iff_iff, iff_true]; omega
           have ol3 : (kn * 3 + 2 + 1 ≤ os.length) = True := by simp only [eq_iff_iff, iff_true]; omega
           have lou := St.get_lt gou
           rw [← hso] at hos
           have sa := str_add (a := s) (b := p.s) (by omega)
           have w4 : IntKind.i64.wrap (((s ++ p.s).length : Int) - 1024) = ((s ++ p.s).length : Int) - 1024 := wrap64 (by omega) (by simp; omega)
           have m4 := max64 (((s ++ p.s).length : Int) - 1024) 0
           have m5 : max (((s ++ p.s).length : Int) - 1024) 0 = (((s ++ p.s).length - 1024 : Nat) : Int) := by omega
           rw [m5] at m4
           have hsl3 : (s ++ p.s).length ≤ 16384 * (i + 1) := by rw [List.length_append]; omega
           generalize hst : s ++ p.s = st at *
           simp -implicitDefEqProofs (disch := first | exact nbf rfl | exact nbt rfl | (simp only [zN.down, reduceCtorEq] <;> omega) | omega) only [e3, e4, e5, e6, e7, e8, e9, e10, e43, e44, e45, e12, e13, gou, ar3, ol1, ol2, ol3, hos, sa, w4, m4, XOp.kind, aEqV, AOp.kind, zP.down, zQ.down, zR.down, zS.down, simprocAttr]
           have g1 := get_put_self (x := Ob.cells (os.set (kn * 3) (.sc (.bool true)))) gou
           have g2 := get_put_self (x := Ob.cells ((os.set (kn * 3) (.sc (.bool true))).set (kn * 3 + 1) (.str st))) g1
           have g3 := get_put_self (x := Ob.cells (((os.set (kn * 3) (.sc (.bool true))).set (kn * 3 + 1) (.str st)).set (kn * 3 + 2) (.sc (.int .i64 ((st.length - 1024 : Nat) : Int))))) g2
           have kk : Kept (· = ou) σ6 (((σ6.put ou (some (Ob.cells (os.set (kn * 3) (.sc (.bool true)))))).put ou (some (Ob.cells ((os.set (kn * 3) (.sc (.bool true))).set (kn * 3 + 1) (.str st))))).put ou (some (Ob.cells (((os.set (kn * 3) (.sc (.bool true))).set (kn * 3 + 1) (.str st)).set (kn * 3 + 2) (.sc (.int .i64 ((st.length - 1024 : Nat) : Int))))))) := Kept.put (X := (· = ou)) (Kept.put (X := (· = ou)) (Kept.put (X := (· = ou)) (Kept.refl _ _) (.inl rfl) lou _) (.inl rfl) (St.get_lt g1) _) (.inl rfl) (St.get_lt g2) _
           have hou7 := OU.says (s := st) hou6 hkn2 gou _ rfl g3
           generalize (((σ6.put ou (some (Ob.cells (os.set (kn * 3) (V.sc (.bool true)))))).put ou (some (Ob.cells ((os.set (kn * 3) (V.sc (.bool true))).set (kn * 3 + 1) (V.str st))))).put ou (some (Ob.cells (((os.set (kn * 3) (V.sc (.bool true))).set (kn * 3 + 1) (V.str st)).set (kn * 3 + 2) (V.sc (.int .i64 ((st.length - 1024 : Nat) : Int))))))) = σ7 at *
           obtain ⟨hd7, hr7, hgg7, hy7⟩ := rng di hd6 hr6 hgg6 hy6 kk (by
            rintro _ rfl
            exact ⟨⟨os, gou⟩, .inr (.inl rfl)⟩)
           have hG7 : GS d w ro ou (i + 1) σ7 g jb r rj M L jbr S br (says o kn st) := ⟨hd7, hr7, hgg7, hy7, hGb.mo.more (by omega), ⟨hGb.lo.c, by omega⟩, hGb.ds, by omega, hri6.kept kk (by rintro (h); exact di.ro_ou h) (by rintro _ rfl; simp [NN]), hou7, says_len (fun j => by have := hol j; omega) hsl3, di⟩
           refine ⟨_, _, g, jb, r, rj, M, L, jbr, S, br, says o kn st, rfl, hG7, ?_, ?_, ?_, ?_, ?_, ?_, ?_, ?_, ?_, ?_, ?_, ?_⟩
           all_goals ((try simp only [stc, mc, List.cons_append, List.nil_append]); simp -implicitDefEqProofs (disch := first | exact nbf rfl | exact nbt rfl | (simp only [zN.down, reduceCtorEq] <;> omega) | omega) only [e3, e4, e5, e6, e7, e8, e9, e10, e43, e44, e45, e12, XOp.kind, AOp.kind, zU.down, simprocAttr]; done)
         have c1 := beq_eq_false_iff_ne.2 q1
         by_cases q2 : p.k = 2
         · have c2 := beq_iff_eq.2 q2
           have m1 := max64 p.n (-1)
           have hnn := hpo.n
           obtain ⟨cs, gw, hc⟩ := hGb.rr
           have hcp := hc.power (max p.n (-1))
           have lw := St.get_lt gw
           have llen := hc.len
           have g0 : σ.get w = some (.cells cs) := by have := gw; rwa [St.get_bump] at this
           have l96 : (96 + 1 ≤ cs.length) = True := by simp only [eq_iff_iff, iff_true]; omega
           simp -implicitDefEqProofs (disch := first | exact nbf rfl | exact nbt rfl | (simp only [zN.down, reduceCtorEq] <;> omega) | omega) only [c0, c1, c2, e3, e4, e5, e6, e7, e8, e9, e10, e43, e44, e45, m1, g0, l96, XOp.kind, AOp.kind, zU.down, simprocAttr]
           repeat first | apply w_fin | apply w_seq | apply w_block | apply w_reg | apply w_op | apply w_dop
           have kk : Kept (fun o => o = w ∨ o = rj ∨ o = r) σ.bump (σ.bump.put w (some (.cells (cs.set 96 (.sc (.int .i64 (max p.n (-1)))))))) := Kept.put (X := fun o => o = w ∨ o = rj ∨ o = r) (Kept.refl _ _) (.inl (.inl rfl)) lw _
           have kw : Kept (· = w) σ.bump (σ.bump.put w (some (.cells (cs.set 96 (.sc (.int .i64 (max p.n (-1)))))))) := Kept.put (X := (· = w)) (Kept.refl _ _) (.inl rfl) lw _
           have hr5 : dk.RR (σ.bump.put w (some (.cells (cs.set 96 (.sc (.int .i64 (max p.n (-1)))))))) w { M with power := max p.n (-1) } := ⟨_, get_put_self gw, hcp⟩
           generalize σ.bump.put w (some (.cells (cs.set 96 (.sc (.int .i64 (max p.n (-1))))))) = σ5 at *
           obtain ⟨hd5, hgg5, hri5, hou5⟩ := doc di hGb.dr hGb.gr hGb.ri hGb.o6 hGb.rr hGb.gd kk
           have hy5 := hGb.gd.kept kw (fun h => di.w_r h.symm) (fun h => di.w_rj h.symm)
           refine (hpow σ5 d M p.n hd5).mono ?_
           rintro ⟨_, σ6⟩ ⟨rfl, hd6, k6, _⟩
           dsimp only at hd6 k6
           have kx : Kept (fun o => o = d ∨ o = jb ∨ o = g) σ5 σ6 := k6.sub fun o h => .inl h
           have hG6 : GS d w ro ou (i + 1) σ6 g jb r rj { M with power := max p.n (-1) } L jbr S br o := ⟨hd6, hr5.kept k6 (by rintro (h); exact di.d_w.symm h), hgg5.kept k6 (by rintro (h); exact di.d_g.symm h) (by rintro (h); exact di.d_jb.symm h) (by rintro _ rfl; obtain ⟨cs, q, _⟩ := hd5; exact ⟨cs, q⟩), hy5.kept k6 (by rintro (h); exact di.d_r.symm h) (by rintro (h); exact di.d_rj.symm h), (hGb.mo.power (n := p.n) hnn.2).more (by omega), ⟨hGb.lo.c, by omega⟩, hGb.ds, by omega, hri5.kept k6 (by rintro (h); exact di.d_ro.symm h) (by rintro _ rfl; simp [NN]), hou5.kept k6 (by rintro (h); exact di.d_ou.symm h), fun j => by have := hol j; omega, di⟩
           simp -implicitDefEqProofs (disch := first | exact nbf rfl | exact nbt rfl | (simp only [zN.down, reduceCtorEq] <;> omega) | omega) only [e3, e4, e5, e6, e7, e8, e9, e10, e43, e44, e45, XOp.kind, AOp.kind, zU.down, simprocAttr]
           refine ⟨_, _, g, jb, r, rj, _, L, jbr, S, br, o, rfl, hG6, ?_, ?_, ?_, ?_, ?_, ?_, ?_, ?_, ?_, ?_, ?_, ?_⟩
           all_goals ((try simp only [stc, mc, List.cons_append, List.nil_append]); simp -implicitDefEqProofs (disch := first | exact nbf rfl | exact nbt rfl | (simp only [zN.down, reduceCtorEq] <;> omega) | omega) only [e3, e4, e5, e6, e7, e8, e9, e10, e43, e44, e45, XOp.kind, AOp.kind, zU.down, simprocAttr]; done)
         have c2 := beq_eq_false_iff_ne.2 q2
         have bs : aBslice 1 1 [.sc (.int .i64 0)] [(0, 1, .sc (.int .i64 p.kp))] = some (.vs .exact 1 1 [.sc (.int .i64 p.kp)]) := rfl
         have hkv : RV 1 (.vs .exact 1 1 [.sc (.int .i64 p.kp)]) ([p.kp].map kc) := RV.vs (own := .exact) (es := [p.kp].map kc) (by simp [kc]) (by simp [kc, V.oneCell])
         simp -implicitDefEqProofs (disch := first | exact nbf rfl | exact nbt rfl | (simp only [zN.down, reduceCtorEq] <;> omega) | omega) only [c0, c1, c2, e3, e4, e5, e6, e7, e8, e9, e10, e43, e44, e45, bs, XOp.kind, AOp.kind, zU.down, simprocAttr]
         repeat first | apply w_fin | apply w_seq | apply w_block | apply w_reg | apply w_op | apply w_dop
         refine (hrcra σ.bump w M _ [p.kp] p.n hGb.rr hkv _ hGb.mo (by omega)).mono ?_
         rintro ⟨_, σ5⟩ ⟨rfl, hr5, k5⟩
         dsimp only at hr5 k5
         have hd5 := hGb.dr.kept k5 (by rintro (h); exact di.d_w h)
         simp -implicitDefEqProofs (disch := first | exact nbf rfl | exact nbt rfl | (simp only [zN.down, reduceCtorEq] <;> omega) | omega) only [e3, e4, e5, e6, e7, e8, e9, e10, e43, e44, e45, bs, XOp.kind, AOp.kind, zU.down, simprocAttr]
         repeat first | apply w_fin | apply w_seq | apply w_block | apply w_reg | apply w_op | apply w_dop
         refine (hcra σ5 d M _ [p.kp] p.n hd5 hkv _ hGb.mo (by omega)).mono ?_
         rintro ⟨_, σ6⟩ ⟨rfl, hd6, k6⟩
         dsimp only at hd6 k6
         have hr6 := hr5.kept k6 (by rintro (h); exact di.d_w.symm h)
         have hri6 := (hGb.ri.kept k5 (by rintro (h); exact di.w_ro.symm h) (by rintro _ rfl; simp [NN])).kept k6 (by rintro (h); exact di.d_ro.symm h) (by rintro _ rfl; simp [NN])
         have hou6 := (hGb.o6.kept k5 (by rintro (h); exact di.w_ou.symm h)).kept k6 (by rintro (h); exact di.d_ou.symm h)
         have zc : (M.crash [p.kp] p.n).power = -1 := rfl
         have hMc := hGb.mo.crash [p.kp] p.n
         generalize M.crash [p.kp] p.n = Mc at *
         have zz := jopen_0 zc
         have hMo := jopen_ok hMc
         have hLo := jopen_l hMc (i + 1)
         simp -implicitDefEqProofs (disch := first | exact nbf rfl | exact nbt rfl | (simp only [zN.down, reduceCtorEq] <;> omega) | omega) only [e3, e4, e5, e6, e7, e8, e9, e10, e43, e44, e45, XOp.kind, AOp.kind, zU.down, simprocAttr]
         repeat first | apply w_fin | apply w_seq | apply w_block | apply w_reg | apply w_op | apply w_dop
         refine (hopen σ6 d Mc hd6 _ hMc (by omega)).mono ?_
         rintro ⟨_, σ7⟩ ⟨g', jb', rfl, hg7, hd7, k7⟩
         dsimp only at hg7 hd7 k7
         obtain ⟨hg7, hjn, hgj⟩ := hg7 zz
         rw [if_pos zz, zz]
         have hr7 := hr6.kept k7 (by rintro (h); exact di.d_w.symm h)
         have hri7 := hri6.kept k7 (by rintro (h); exact di.d_ro.symm h) (by rintro _ rfl; simp [NN])
         have hou7 := hou6.kept k7 (by rintro (h); exact di.d_ou.symm h)
         have lg7 : g' < σ7.n := by obtain ⟨_, q, _⟩ := hg7.g; exact St.get_lt q
         have lw6 := hr6.lt
         have ld6 := hd6.lt
         simp -implicitDefEqProofs (disch := first | exact nbf rfl | exact nbt rfl | (simp only [zN.down, reduceCtorEq] <;> omega) | omega) only [e3, e4, e5, e6, e7, e8, e9, e10, e43, e44, e45, XOp.kind, AOp.kind, zU.down, simprocAttr]
         repeat first | apply w_fin | apply w_seq | apply w_block | apply w_reg | apply w_op | apply w_dop
         refine (hropen σ7 w Mc hr7 _ hMc (by omega)).mono ?_
         rintro ⟨_, σ8⟩ ⟨r', rj', rfl, hy8, hr8, k8⟩
         dsimp only at hy8 hr8 k8
         obtain ⟨hy8, hrn, hrj⟩ := hy8 zz
         rw [if_pos zz, zz]
         have hd8 := hd7.kept k8 (by rintro (h); exact di.d_w h)
         have hg8 := hg7.kept k8 (show ¬ g' = w by omega) (show ¬ jb' = w by omega) (by rintro _ rfl; obtain ⟨cs, q, _⟩ := hr7; exact ⟨cs, q⟩)
         have lro : ro < σ6.n := by obtain ⟨_, q, _⟩ := hri6.g; exact St.get_lt q
         have lou : ou < σ6.n := by obtain ⟨_, q, _⟩ := hou6.g; exact St.get_lt q
         have k68 := Nat.le_trans k7.n k8.n
         have kn7 := k7.n
         have hri8 := (hri6.more (N' := NN d w ro ou g' jb' r' rj') (by intro q hq; unfold NN at hq ⊢; omega)).kept k7 (by rintro (h); exact di.d_ro.symm h) (by rintro _ rfl; simp [NN])
         have hri9 := hri8.kept k8 (by rintro (h); exact di.w_ro.symm h) (by rintro _ rfl; simp [NN])
         have hG8 : GS d w ro ou (i + 1) σ8 g' jb' r' rj' (jopen Mc).1 (jopen Mc).2.1 0 [] 0 o := by
          refine ⟨hd8, hr8, hg8, hy8, hMo.more (by omega), hLo, List.Pairwise.nil, Nat.zero_le _, hri9, hou7.kept k8 (by rintro (h); exact di.w_ou.symm h), fun j => by have := hol j; omega, ?_⟩
          constructor
          all_goals first | exact di.d_w | exact di.d_ro | exact di.d_ou | exact di.w_ro | exact di.w_ou | exact di.ro_ou | (clear di; omega)
         simp -implicitDefEqProofs (disch := first | exact nbf rfl | exact nbt rfl | (simp only [zN.down, reduceCtorEq] <;> omega) | omega) only [e3, e4, e5, e6, e7, e8, e9, e10, e43, e44, e45, XOp.kind, AOp.kind, zU.down, simprocAttr]
         refine ⟨_, _, g', jb', r', rj', _, _, 0, [], 0, o, rfl, hG8, ?_, ?_, ?_, ?_, ?_, ?_, ?_, ?_, ?_, ?_, ?_, ?_⟩
         all_goals ((try simp only [stc, mc, List.cons_append, List.nil_append]); simp -implicitDefEqProofs (disch := first | exact nbf rfl | exact nbt rfl | (simp only [zN.down, reduceCtorEq] <;> omega) | omega) only [e3, e4, e5, e6, e7, e8, e9, e10, e43, e44, e45, XOp.kind, AOp.kind, zU.down, simprocAttr]; done)
       clear hG hGb kb e3 e4 e5 e6 e7 e8 e9 e10 e43 e44 e45
       rintro _ ⟨ρ, σ, g, jb, r, rj, M, L, jbr, S, br, o, rfl, hG, e3, e4, e5, e6, e7, e8, e9, e10, e43, e44, e45, e12⟩
       have hLn := hG.lo.n
       have hSl := hG.sl
       simp only [stc, mc, List.cons_append, List.nil_append] at e12
       obtain ⟨cs, g0, hc⟩ := hG.rr
       have ho := hc.o
       have o1 := hops σ d M hG.dr
       have bb : ∀ a : Bool, (a == a) = true := fun a => by simp
       obtain ⟨vr, gy, hvr⟩ := hG.gd.j
       obtain ⟨sv, gg, hsv⟩ := hG.gd.g
       have vrc := hvr.cell
       simp -implicitDefEqProofs (disch := first | exact nbf rfl | exact nbt rfl | (simp only [zN.down, reduceCtorEq] <;> omega) | omega) only [e3, e4, e5, e6, e7, e8, e9, e10, e43, e44, e45, e12, o1, ho, g0, hne2, eqb, bb, dk.pnil, XOp.kind, aArrAddr, AOp.kind, zP.down, zQ.down, zR.down, zS.down, simprocAttr]
       repeat first | apply w_fin | apply w_seq | apply w_block | apply w_reg | apply w_op | apply w_dop
       refine (hlist _ g jb d L jbr S br (hG.gr.kept0 (Kept.refl _ _)) (by omega)).mono ?_
       rintro ⟨_, σ5⟩ ⟨v, rfl, how, k5⟩
       dsimp only at how k5
       have hv := how.rv
       have hvc := hv.cell
       simp -implicitDefEqProofs (disch := first | exact nbf rfl | exact nbt rfl | (simp only [zN.down, reduceCtorEq] <;> omega) | omega) only [e3, e4, e5, e6, e7, e8, e9, e10, e43, e44, e45, e12, hvc.1, hvc.2, XOp.kind, AOp.kind, zU.down, simprocAttr]
       repeat first | apply w_fin | apply w_seq | apply w_block | apply w_reg | apply w_op | apply w_dop
       refine (hrt σ5 g jb d L jbr S br p.m.talk (hG.gr.kept0 k5) hG.lo.c (by omega)).mono ?_
       rintro ⟨_, σ6⟩ ⟨rfl, k6⟩
       dsimp only at k6
       have k6 := k5.trans k6
       simp -implicitDefEqProofs (disch := first | exact nbf rfl | exact nbt rfl | (simp only [zN.down, reduceCtorEq] <;> omega) | omega) only [e3, e4, e5, e6, e7, e8, e9, e10, e43, e44, e45, e12, XOp.kind, AOp.kind, zU.down, simprocAttr]
       repeat first | apply w_fin | apply w_seq | apply w_block | apply w_reg | apply w_op | apply w_dop
       refine (hrrt σ6.bump r rj w L jbr S br p.m.talk (hG.gd.kept0 k6.bump) hG.ds (by omega) hG.lo.c (by omega)).mono ?_
       rintro ⟨_, σ7⟩ ⟨rfl, k7⟩
       dsimp only at k7
       have k7 := k6.bump.trans k7
       have gy7 := k7.get _ _ (fun h => h) gy
       have gg7 := k7.get _ _ (fun h => h) gg
       simp -implicitDefEqProofs (disch := first | exact nbf rfl | exact nbt rfl | (simp only [zN.down, reduceCtorEq] <;> omega) | omega) only [e3, e4, e5, e6, e7, e8, e9, e10, e43, e44, e45, e12, gy7, gg7, vrc.1, vrc.2, hvc.1, hvc.2, XOp.kind, AOp.kind, zU.down, simprocAttr]
       repeat first | apply w_fin | apply w_seq | apply w_block | apply w_reg | apply w_op | apply w_dop
       refine (hsame _ v vr L hv hvr (by omega)).mono ?_
       rintro ⟨_, σ8⟩ ⟨rfl, k8⟩
       dsimp only at k8
       have k8 := k7.bump.trans k8
       simp -implicitDefEqProofs (disch := first | exact nbf rfl | exact nbt rfl | (simp only [zN.down, reduceCtorEq] <;> omega) | omega) only [e3, e4, e5, e6, e7, e8, e9, e10, e43, e44, e45, e12, eq2, hne2, bb, w3, XOp.kind, aArrAddr, AOp.kind, zP.down, zQ.down, zR.down, zS.down, simprocAttr]
       exact ⟨l.length - (i + 1), by omega, i + 1, g, jb, r, rj, M, L, jbr, S, br, o, rfl, hl, hG.kept0 k8, rfl, rfl, rfl⟩
     · have d1 : decide ((i : Int) < (l.length : Int)) = false := by simpa using hl
       simp -implicitDefEqProofs (disch := first | exact nbf rfl | exact nbt rfl | (simp only [zN.down, reduceCtorEq] <;> omega) | omega) only [d1, e44, e45, XOp.kind, AOp.kind, zU.down, simprocAttr]
       exact ⟨_, _, rfl⟩
 · rintro _ ⟨ρ, σ, rfl⟩
   simp -implicitDefEqProofs (disch := first | exact nbf rfl | exact nbt rfl | (simp only [zN.down, reduceCtorEq] <;> omega) | omega) only [XOp.kind, AOp.kind, zU.down, simprocAttr]
theorem plays_good (x : V) (w : ArgA (.sl stT) x) : good (callN Tab.tbl 9223372036854776000 3 [x] St.empty) = true := by
 obtain ⟨l, h⟩ := scr_of w
 obtain ⟨σ1, hw⟩ := works_ok
 exact call_turned Tab.turned (w_good (plays_run 9223372036854775990 St.empty x l h (by decide) σ1 hw))
end Go.Proofs.YtehdjkikcfeiaaaGreat.jn
