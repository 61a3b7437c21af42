/-
  Gateways: opened, gone over; scripts.
  GatewayFences: its run.
-/
import Derived.Test.YtehdjkikcfeiaaaGateU
import Derived.KernelRfl
namespace Go.Proofs.Ytehdjkikcfeiaaa.jn
open Go.Ab fr dk
set_option maxRecDepth 100000
set_option maxHeartbeats 8000000
set_option linter.unusedSimpArgs false
set_option linter.unusedVariables false

theorem gopen_ok (k : Nat) (ys : YlF) (σ : St) (d : Nat) (M : DM) (h : DR σ d M) {B : Nat} (hm : M.Ok B) (hB : B ≤ 999000) (hk : 2100000 ≤ k) :
    W (callY Tab.tb (k + 7) ys 8 [.ptr d 0] σ) fun r => ∃ g jb, r.1 = .tup [if (jopen M).2.2 = 0 then .ptr g 0 else .sc .nilP, .sc (.int .i64 (jopen M).2.2)] ∧ ((jopen M).2.2 = 0 → GR r.2 g jb d (jopen M).2.1 0 0 ∧ σ.n ≤ jb ∧ jb < g) ∧ DR r.2 d (jopen M).1 ∧ Kept (· = d) σ r.2 := by
  rw [s_call (af := Tab.b8) rfl (Nat.le_of_ble_eq_true rfl)]
  have ho := open_ok k ys σ d M h hm hB hk
  generalize callY Tab.tb (k + 6) = cy at ho ⊢
  have xmk : ∀ σ, XOp.run σ .mkmap [] = some (.mp σ.n, σ.push (.map [] 0)) := fun _ => rfl
  simp -implicitDefEqProofs (disch := first | exact nbf rfl | exact nbt rfl | (simp only [ne_eq, reduceCtorEq, not_false_eq_true]; done) | omega | (simp -implicitDefEqProofs only [zN.down] <;> omega) | fail) only [Tab.b8, XOp.kind, reduceCtorEq, V.bool, V.i64, aUn, aBox, aLoad, aArrAddr, aFold, aEqV, chkAdd, effAdd, AOp.kind, chkAll, chkSee, zP.down, zQ.down, zR.down, simprocAttr]
  repeat (first | refine w_fin ?_ | refine w_seq ?_ | refine w_block ?_ | refine w_reg ?_ | refine w_op ?_ | refine w_dop ?_)
  refine ho.mono ?_
  rintro ⟨_, σ1⟩ ⟨b, rfl, hj, hd, k1⟩
  dsimp only at hj hd k1
  generalize jopen M = O at *
  by_cases hz : O.2.2 = 0
  · obtain ⟨hj, hb⟩ := hj hz
    have d1 : (O.2.2 != 0) = false := by simp [hz]
    rw [if_pos hz]
    simp -implicitDefEqProofs (disch := first | exact nbf rfl | exact nbt rfl | (simp only [ne_eq, reduceCtorEq, not_false_eq_true]; done) | omega | (simp -implicitDefEqProofs only [zN.down] <;> omega) | fail) only [d1, xmk, XOp.kind, reduceCtorEq, V.bool, V.i64, aUn, aBox, aLoad, aArrAddr, aFold, aEqV, chkAdd, effAdd, AOp.kind, chkAll, chkSee, zP.down, zQ.down, zR.down, simprocAttr]
    have k2 : Kept noX σ1 ((σ1.push (.map [] 0)).push (.cells [.ptr b 0, .mp σ1.n, .sc (.int .i64 0)])) := ((Kept.refl _ _).push _).push _
    refine ⟨σ1.n + 1, b, by rw [if_pos hz, hz], fun _ => ⟨⟨⟨σ1.n, get_push_eq (by simp), ⟨[], 0, get_push_lt get_push_self⟩⟩, hj.kept k2 (fun h => h)⟩, hb, by have := hj.lt; omega⟩, hd.kept k2 (fun h => h), k1.trans k2.any⟩
  · have d1 : (O.2.2 != 0) = true := by simp [hz]
    rw [if_neg hz]
    simp -implicitDefEqProofs (disch := first | exact nbf rfl | exact nbt rfl | (simp only [ne_eq, reduceCtorEq, not_false_eq_true]; done) | omega | (simp -implicitDefEqProofs only [zN.down] <;> omega) | fail) only [d1, XOp.kind, reduceCtorEq, V.bool, V.i64, aUn, aBox, aLoad, aArrAddr, aFold, aEqV, chkAdd, effAdd, AOp.kind, chkAll, chkSee, zP.down, zQ.down, zR.down, simprocAttr]
    exact ⟨0, 0, by rw [if_neg hz], fun h => absurd h hz, hd, k1⟩
theorem gtaken_ok (k : Nat) (ys : YlF) (σ : St) (g : Nat) :
    callY Tab.tb (k + 1) ys 27 [.ptr g 0] σ = some (.fn (.func 41) [] [.ptr σ.n 0], σ.push (.cells [.ptr g 0])) := by
  rw [s_call (af := Tab.b27) rfl (Nat.le_of_ble_eq_true rfl)]
  generalize callY Tab.tb k = cy
  simp -implicitDefEqProofs (disch := first | exact nbf rfl | exact nbt rfl | (simp only [ne_eq, reduceCtorEq, not_false_eq_true]; done) | omega | (simp -implicitDefEqProofs only [zN.down] <;> omega) | fail) only [Tab.b27, XOp.kind, reduceCtorEq, V.bool, V.i64, aUn, aBox, aLoad, aArrAddr, aFold, aEqV, chkAdd, effAdd, AOp.kind, chkAll, chkSee, zP.down, zQ.down, zR.down, simprocAttr]
theorem gtaken1_ok (k : Nat) (ys : YlF) (σ : St) (bx y g jb d : Nat) (l : List Tk) (jbr br : Int) (h0 : σ.get bx = some (.cells [.ptr g 0])) (hg : GR σ g jb d l jbr br) (hk : 1000020 ≤ k) (hl : l.length ≤ 1000000) (I : Nat → St → Prop) (Q : St → Prop) (hI0 : I 0 σ)
    (hkp : ∀ i σ σ', I i σ → Kept noX σ σ' → I i σ')
    (hy : ∀ i (hi : i < l.length) σ, I i σ → W (ys y [.agg (tkc l[i])] σ) fun r => (r.1 = .sc (.bool true) ∧ I (i + 1) r.2) ∨ (r.1 = .sc (.bool false) ∧ Q r.2)) :
    W (callY Tab.tb (k + 2) ys 41 [.yl y, .ptr bx 0] σ) fun r => I l.length r.2 ∨ Q r.2 := by
  rw [s_call (af := Tab.b41) rfl (Nat.le_of_ble_eq_true rfl)]
  have hall := fun σ b => allj_ok k ys σ b
  have hgen := fun σ bx b br h0 hj I Q a1 a2 a3 => allj1_ok k ys σ bx y b d l br h0 hj hk hl I Q a1 a2 a3
  generalize callY Tab.tb (k + 1) = cy at hall hgen ⊢
  obtain ⟨o, gg, mi⟩ := hg.g
  have hj := hg.j
  have k1 : Kept noX σ (σ.push (.cells [.ptr jb 0])) := (Kept.refl _ _).push _
  have f1 := hgen (σ.push (.cells [.ptr jb 0])) σ.n jb jbr get_push_self (hj.kept k1 (fun h => h)) I Q (hkp _ _ _ hI0 k1) hkp hy
  simp -implicitDefEqProofs (disch := first | exact nbf rfl | exact nbt rfl | (simp only [ne_eq, reduceCtorEq, not_false_eq_true]; done) | omega | (simp -implicitDefEqProofs only [zN.down] <;> omega) | fail) only [Tab.b41, h0, gg, dk.pnil, hall, XOp.kind, reduceCtorEq, V.bool, V.i64, aUn, aBox, aLoad, aArrAddr, aFold, chkAdd, effAdd, AOp.kind, chkAll, chkSee, zP.down, zQ.down, zR.down, simprocAttr]
  repeat (first | refine w_fin ?_ | refine w_seq ?_ | refine w_block ?_ | refine w_reg ?_ | refine w_op ?_ | refine w_dop ?_)
  refine f1.mono ?_
  rintro ⟨v, σ2⟩ h
  simp -implicitDefEqProofs (disch := first | exact nbf rfl | exact nbt rfl | (simp only [ne_eq, reduceCtorEq, not_false_eq_true]; done) | omega | (simp -implicitDefEqProofs only [zN.down] <;> omega) | fail) only [XOp.kind, reduceCtorEq, V.bool, V.i64, aUn, aBox, aLoad, aArrAddr, aFold, aEqV, chkAdd, effAdd, AOp.kind, chkAll, chkSee, zP.down, zQ.down, zR.down, simprocAttr]
  exact h
structure LI (lo o5 y : Nat) (l : List Tk) (σ0 : St) (i : Nat) (σ : St) : Prop where
  lp : σ.get y = some (.loop .ready none)
  ls : ∃ v, σ.get o5 = some (.cells [v]) ∧ Ow lo σ 5 v ((l.take i).map tkc)
  kp : Kept noX σ0 σ
theorem LI.kept {lo o5 y : Nat} {l : List Tk} {σ0 : St} {i : Nat} {σ σ' : St} (h : LI lo o5 y l σ0 i σ) (k : Kept noX σ σ') : LI lo o5 y l σ0 i σ' := by
  obtain ⟨v, h1, h2⟩ := h.ls
  exact ⟨k.get _ _ (fun h => h) h.lp, ⟨v, k.get _ _ (fun h => h) h1, h2.kept0 k⟩, h.kp.trans k⟩
theorem list_ok (k : Nat) (ys : YlF) (σ : St) (g jb d : Nat) (l : List Tk) (jbr br : Int) (hj : GR σ g jb d l jbr br) (hk : 1000020 ≤ k) (hl : l.length ≤ 1000000) :
    W (callY Tab.tb (k + 3) ys 12 [.ptr g 0] σ) fun r => ∃ v, r.1 = .tup [v, .sc (.bool true)] ∧ Ow σ.n r.2 5 v (l.map tkc) ∧ Kept noX σ r.2 := by
  rw [s_call (af := Tab.b12) rfl (Nat.le_of_ble_eq_true rfl)]
  have hall := fun σ => gtaken_ok (k + 1) ys σ g
  have hgen := fun ys σ bx y h0 hj I Q a1 a2 a3 => gtaken1_ok k ys σ bx y g jb d l jbr br h0 hj hk hl I Q a1 a2 a3
  generalize callY Tab.tb (k + 2) = cy at hall hgen ⊢
  have hnf : ∀ g : FuncId, ∀ a b σ, aEqV σ .func (.fn (.func g) a b) (.sc .nilF) = some false := fun _ _ _ _ => rfl
  simp -implicitDefEqProofs (disch := first | exact nbf rfl | exact nbt rfl | (simp only [ne_eq, reduceCtorEq, not_false_eq_true]; done) | omega | (simp -implicitDefEqProofs only [zN.down] <;> omega) | fail) only [Tab.b12, hall, hnf, XOp.kind, reduceCtorEq, V.bool, V.i64, aUn, aBox, aLoad, aArrAddr, aFold, chkAdd, effAdd, AOp.kind, chkAll, chkSee, zP.down, zQ.down, zR.down, simprocAttr]
  repeat (first | refine w_fin ?_ | refine w_seq ?_ | refine w_block ?_ | refine w_reg ?_ | refine w_op ?_ | refine w_dop ?_)
  have g0 : ((σ.push (.cells [.ptr g 0])).push (.cells [.sc .nilS])).get σ.n = some (.cells [.ptr g 0]) := get_push_lt get_push_self
  have g1 : ((σ.push (.cells [.ptr g 0])).push (.cells [.sc .nilS])).get (σ.n + 1) = some (.cells [.sc .nilS]) := get_push_eq (by simp)
  have kp : Kept noX σ ((σ.push (.cells [.ptr g 0])).push (.cells [.sc .nilS])) := ((Kept.refl _ _).push _).push _
  have hn : ((σ.push (.cells [.ptr g 0])).push (.cells [.sc .nilS])).n = σ.n + 2 := by simp
  generalize ((σ.push (.cells [.ptr g 0])).push (.cells [.sc .nilS])) = σ1 at *
  refine W.mono (Q := fun r => ∃ (ρ : Env) (σ' : St) (v : V), r = ((.normal : Ex), ρ, σ') ∧ ρ 5 = .ptr (σ.n + 1) 0 ∧ σ'.get (σ.n + 1) = some (.cells [v]) ∧ Ow σ.n σ' 5 v (l.map tkc) ∧ Kept noX σ σ') ?_ ?_
  · refine w_range (g := 41) (cap := [.ptr σ.n 0]) (by simp -implicitDefEqProofs (disch := first | exact nbf rfl | exact nbt rfl | (simp only [ne_eq, reduceCtorEq, not_false_eq_true]; done) | omega | (simp -implicitDefEqProofs only [zN.down] <;> omega) | fail) only [XOp.kind, reduceCtorEq, V.bool, V.i64, aUn, aBox, aLoad, aArrAddr, aFold, aEqV, chkAdd, effAdd, AOp.kind, chkAll, chkSee, zP.down, zQ.down, zR.down, simprocAttr]) ?_
    intro ys' hys
    rw [hn] at hys ⊢
    have hl0 : (σ1.push (.loop .ready none)).get (σ.n + 2) = some (.loop .ready none) := get_push_eq hn.symm
    refine (hgen ys' (σ1.push (.loop .ready none)) σ.n (σ.n + 2) (get_push_lt g0) (hj.kept0 (kp.push _)) (LI σ.n (σ.n + 1) (σ.n + 2) l σ) (fun _ => False) ⟨hl0, ⟨.sc .nilS, get_push_lt g1, .nil⟩, kp.push _⟩ (fun i σ σ' h k => h.kept k) ?_).mono ?_
    · intro i hi σ2 hI
      rw [hys]
      refine w_round hI.lp rfl ?_
      obtain ⟨v, g3, how⟩ := hI.ls
      have l2 := hI.lp
      have n3 := St.get_lt l2
      have htk : l.take i ++ [l[i]] = l.take (i + 1) := by rw [List.take_add_one, List.getElem?_eq_getElem hi]; rfl
      have hrv := tkc_rv l[i]
      generalize l[i] = x at *
      have hmap : (l.take i).map tkc ++ [x].map tkc = (l.take (i + 1)).map tkc := by rw [← htk, List.map_append]
      simp only [tkc] at hrv
      have k0 : Kept (fun o => o = σ.n + 2) σ2 (σ2.bump.put (σ.n + 2) (some (.loop .busy none))) := Kept.put (X := fun o => o = σ.n + 2) ((Kept.refl _ _).bump) (.inl rfl) (by simp; omega) _
      have hps : (σ2.bump.put (σ.n + 2) (some (.loop .busy none))).n = σ2.n + 1 := by simp
      have howb : Ow σ.n (σ2.bump.put (σ.n + 2) (some (.loop .busy none))) 5 v ((l.take i).map tkc) := how.kept k0 (by rintro _ rfl; rw [l2]; simp)
      have hlt : (l.take i).length ≤ i := by rw [List.length_take]; omega
      have g3b := k0.get _ _ (by omega) g3
      have lpb : (σ2.bump.put (σ.n + 2) (some (.loop .busy none))).get (σ.n + 2) = some (.loop .busy none) := get_put_self (by rw [St.get_bump]; exact l2)
      simp -implicitDefEqProofs (disch := first | exact nbf rfl | exact nbt rfl | (simp only [ne_eq, reduceCtorEq, not_false_eq_true]; done) | omega | (simp -implicitDefEqProofs only [zN.down] <;> omega) | fail) only [bind1, l2, g3, bsl1t, tkc, XOp.kind, reduceCtorEq, V.bool, V.i64, aUn, aBox, aLoad, aArrAddr, aFold, aEqV, chkAdd, effAdd, AOp.kind, chkAll, chkSee, zP.down, zQ.down, zR.down, simprocAttr]
      repeat (first | refine w_fin ?_ | refine w_seq ?_ | refine w_block ?_ | refine w_reg ?_ | refine w_op ?_ | refine w_dop ?_)
      refine (grow_ok howb hrv (by rw [hps]; omega) (by unfold roomB; simp; omega) (by unfold roomB; simp; omega)).mono ?_
      rintro ⟨v', σ3⟩ ⟨h1, h2⟩
      dsimp only at h1 h2
      have h1 : Ow σ.n σ3 5 v' ((l.take (i + 1)).map tkc) := by rw [← hmap]; exact h1
      have q0 := h2.cells g3b
      have q3 := h2.get _ _ lpb (.inr (by simp))
      have n4 := St.get_lt q3
      have hc := h1.rv.cell
      have kk : Kept noX σ σ3 := by
        have k5 : Kept noX σ (σ2.bump.put (σ.n + 2) (some (.loop .busy none))) := hI.kp.bump.put (.inr (by omega)) (by simp; omega) _
        exact h2.kept k5 (Nat.le_refl _)
      simp -implicitDefEqProofs (disch := first | exact nbf rfl | exact nbt rfl | (simp only [ne_eq, reduceCtorEq, not_false_eq_true]; done) | omega | (simp -implicitDefEqProofs only [zN.down] <;> omega) | fail) only [q0, q3, hc.1, hc.2, XOp.kind, reduceCtorEq, V.bool, V.i64, aUn, aBox, aLoad, aArrAddr, aFold, aEqV, chkAdd, effAdd, AOp.kind, chkAll, chkSee, zP.down, zQ.down, zR.down, simprocAttr]
      have n5 := St.get_lt q0
      refine ⟨⟨_, _, rfl⟩, fun _ => .inl ⟨?_, ⟨v', ?_, ?_⟩, ?_⟩, fun h => h.elim⟩
      · exact get_put_self (get_put_other n5 (by omega) q3)
      · exact get_put_other (by simp; exact n4) (by omega) (get_put_self q0)
      · refine h1.kept (X := fun o => o = σ.n + 1 ∨ o = σ.n + 2) (((Kept.refl _ _).put (.inl (.inl rfl)) n5 _).put (.inl (.inr rfl)) (by simp; exact n4) _) ?_
        rintro _ (rfl | rfl)
        · rw [q0]; simp
        · rw [q3]; simp
      · exact (kk.put (.inr (by omega)) n5 _).put (.inr (by omega)) (by simp; exact n4) _
    · rintro ⟨r, σ2⟩ (h | h)
      · dsimp only at h
        obtain ⟨v, g3, how⟩ := h.ls
        rw [List.take_length] at how
        have n3 := St.get_lt h.lp
        dsimp only
        rw [after_n h.lp]
        refine ⟨_, rfl, _, _, v, rfl, by simp -implicitDefEqProofs (disch := first | exact nbf rfl | exact nbt rfl | (simp only [ne_eq, reduceCtorEq, not_false_eq_true]; done) | omega | (simp -implicitDefEqProofs only [zN.down] <;> omega) | fail) only [XOp.kind, reduceCtorEq, V.bool, V.i64, aUn, aBox, aLoad, aArrAddr, aFold, aEqV, chkAdd, effAdd, AOp.kind, chkAll, chkSee, zP.down, zQ.down, zR.down, simprocAttr], get_put_other n3 (by omega) g3, how.kept (X := (· = σ.n + 2)) (Kept.put (X := (· = σ.n + 2)) (Kept.refl _ _) (.inl rfl) n3 _) (by rintro _ rfl; rw [h.lp]; simp), h.kp.put (.inr (by omega)) n3 _⟩
      · exact h.elim
  · rintro _ ⟨ρ, σ', v, rfl, e5, g2, how, kp⟩
    have hc := how.rv.cell
    simp -implicitDefEqProofs (disch := first | exact nbf rfl | exact nbt rfl | (simp only [ne_eq, reduceCtorEq, not_false_eq_true]; done) | omega | (simp -implicitDefEqProofs only [zN.down] <;> omega) | fail) only [e5, g2, hc.1, hc.2, XOp.kind, reduceCtorEq, V.bool, V.i64, aUn, aBox, aLoad, aArrAddr, aFold, aEqV, chkAdd, effAdd, AOp.kind, chkAll, chkSee, zP.down, zQ.down, zR.down, simprocAttr]
    exact ⟨v, rfl, how, kp⟩

theorem same_ok (k : Nat) (ys : YlF) (σ : St) (va vb : V) (l : List Tk) (ha : RV 5 va (l.map tkc)) (hb : RV 5 vb (l.map tkc)) (hk : 1000020 ≤ k) (hl : l.length ≤ 1000000) :
    W (callY Tab.tb (k + 1) ys 13 [va, vb] σ) fun r => r.1 = .sc (.bool true) ∧ Kept noX σ r.2 := by
  rw [s_call (af := Tab.b13) rfl (Nat.le_of_ble_eq_true rfl)]
  generalize callY Tab.tb k = cy
  have alen := ha.len
  have asize := ha.size
  have blen := hb.len
  have bsize := hb.size
  rw [List.length_map] at alen blen
  have hne2 : ∀ a : Int, (a != a) = false := fun a => by simp
  simp -implicitDefEqProofs (disch := first | exact nbf rfl | exact nbt rfl | (simp only [ne_eq, reduceCtorEq, not_false_eq_true]; done) | omega | (simp -implicitDefEqProofs only [zN.down] <;> omega) | fail) only [Tab.b13, alen, blen, hne2, XOp.kind, reduceCtorEq, V.bool, V.i64, aUn, aBox, aLoad, aArrAddr, aFold, aEqV, chkAdd, effAdd, AOp.kind, chkAll, chkSee, zP.down, zQ.down, zR.down, simprocAttr]
  repeat (first | refine w_fin ?_ | refine w_seq ?_ | refine w_block ?_ | refine w_reg ?_ | refine w_op ?_ | refine w_dop ?_)
  refine W.mono (Q := fun r => ∃ (ρ : Env) (σ' : St), r = ((.exit 0 : Ex), ρ, σ') ∧ Kept noX σ σ') ?_ ?_
  · refine w_loop (fun m ρ σ' => ∃ i, m = l.length - i ∧ i ≤ l.length ∧ Kept noX σ σ' ∧ ρ 0 = va ∧ ρ 1 = vb ∧ ρ 12 = .sc (.int .i64 l.length) ∧ ρ 13 = .sc (.int .i64 i)) l.length (by omega) ?_ ?_
    · refine ⟨0, rfl, Nat.zero_le _, by ((repeat (first | refine Kept.push ?_ _ | refine Kept.bump ?_ | refine Kept.put ?_ (.inr (by omega)) (by first | omega | (simp only [St.n_put, St.n_push]; omega)) _)); first | exact Kept.refl _ _ | assumption), ?_, ?_, ?_, ?_⟩
      all_goals first | rfl | (simp -implicitDefEqProofs (disch := first | exact nbf rfl | exact nbt rfl | (simp only [ne_eq, reduceCtorEq, not_false_eq_true]; done) | omega | (simp -implicitDefEqProofs only [zN.down] <;> omega) | fail) only [XOp.kind, reduceCtorEq, V.bool, V.i64, aUn, aBox, aLoad, aArrAddr, aFold, aEqV, chkAdd, effAdd, AOp.kind, chkAll, chkSee, zP.down, zQ.down, zR.down, simprocAttr]; done) | (simp -implicitDefEqProofs (disch := first | exact nbf rfl | exact nbt rfl | (simp only [ne_eq, reduceCtorEq, not_false_eq_true]; done) | omega | (simp -implicitDefEqProofs only [zN.down] <;> omega) | fail) only [XOp.kind, reduceCtorEq, V.bool, V.i64, aUn, aBox, aLoad, aArrAddr, aFold, aEqV, chkAdd, effAdd, AOp.kind, chkAll, chkSee, zP.down, zQ.down, zR.down, simprocAttr]; rfl)
    · rintro m ρ σ' ⟨i, hm, hi, kp, e0, e1, e12, e13⟩
      by_cases hil : i < l.length
      · have c1 : decide ((i : Int) < (l.length : Int)) = true := by simpa using hil
        obtain ⟨a1, a2, a3⟩ := tkc_at ha hil
        obtain ⟨b1, b2, b3⟩ := tkc_at hb hil
        simp only [tkc] at a3 b3
        generalize l[i] = x at *
        have w1 : IntKind.i64.wrap ((i : Int) + 1) = ((i + 1 : Nat) : Int) := wrap64 (by omega) (by omega)
        simp -implicitDefEqProofs (disch := first | exact nbf rfl | exact nbt rfl | (simp only [ne_eq, reduceCtorEq, not_false_eq_true]; done) | omega | (simp -implicitDefEqProofs only [zN.down] <;> omega) | fail) only [c1, e0, e1, e12, e13, a1, a2, a3, b1, b2, b3, asize, bsize, eqT, w1, XOp.kind, reduceCtorEq, V.bool, V.i64, aUn, aBox, aLoad, aArrAddr, aFold, chkAdd, effAdd, AOp.kind, chkAll, chkSee, zP.down, zQ.down, zR.down, simprocAttr]
        exact ⟨l.length - (i + 1), by omega, i + 1, rfl, hil, by ((repeat (first | refine Kept.push ?_ _ | refine Kept.bump ?_ | refine Kept.put ?_ (.inr (by omega)) (by first | omega | (simp only [St.n_put, St.n_push]; omega)) _)); first | exact Kept.refl _ _ | assumption), rfl⟩
      · have c1 : decide ((i : Int) < (l.length : Int)) = false := by simpa using hil
        simp -implicitDefEqProofs (disch := first | exact nbf rfl | exact nbt rfl | (simp only [ne_eq, reduceCtorEq, not_false_eq_true]; done) | omega | (simp -implicitDefEqProofs only [zN.down] <;> omega) | fail) only [c1, e12, e13, XOp.kind, reduceCtorEq, V.bool, V.i64, aUn, aBox, aLoad, aArrAddr, aFold, aEqV, chkAdd, effAdd, AOp.kind, chkAll, chkSee, zP.down, zQ.down, zR.down, simprocAttr]
        exact ⟨_, _, rfl, kp⟩
  · rintro _ ⟨ρ, σ', rfl, kp⟩
    simp -implicitDefEqProofs (disch := first | exact nbf rfl | exact nbt rfl | (simp only [ne_eq, reduceCtorEq, not_false_eq_true]; done) | omega | (simp -implicitDefEqProofs only [zN.down] <;> omega) | fail) only [XOp.kind, reduceCtorEq, V.bool, V.i64, aUn, aBox, aLoad, aArrAddr, aFold, aEqV, chkAdd, effAdd, AOp.kind, chkAll, chkSee, zP.down, zQ.down, zR.down, simprocAttr]
    exact kp
theorem works_run : (callY Tab.tb 9223372036854775999 noYl 5 [] St.empty).map (·.1) = some (.sc (.bool true)) := by kernel_rfl
theorem works_ok : ∃ σ1, callY Tab.tb (9223372036854775990 + 9) noYl 5 [] St.empty = some (.sc (.bool true), σ1) := by
  have h := works_run
  rw [Option.map_eq_some_iff] at h
  obtain ⟨⟨v, σ1⟩, h1, h2⟩ := h
  exact ⟨σ1, by rw [show (9223372036854775990 + 9 : Nat) = 9223372036854775999 from rfl, h1]; simp only at h2; rw [h2]⟩
/-- A call of a script. -/
structure Stp where
  k : Int
  n : Int
  m : Ms
  s : List UInt8
  kp : Int
def stc (p : Stp) : List V := [.sc (.int .i64 p.k), .sc (.int .i64 p.n)] ++ mc p.m ++ [.str p.s, .sc (.int .i64 p.kp)]
structure Stp.Ok (p : Stp) : Prop where
  n : -9223372036854775808 ≤ p.n ∧ p.n ≤ 9223372036854775807
  s : p.s.length ≤ 140737488351232
  t : p.m.dat.length ≤ 140737488351232
  en : Cell1 p.m.en
structure Scr (x : V) (l : List Stp) : Prop where
  rv : RV 26 x (l.map stc)
  ok : ∀ p ∈ l, p.Ok
  len : l.length ≤ 9223372036854775807
abbrev msT : Ty := .agg [.int .u8, .int .i64, .int .i64, .int .i64, .int .i64, .int .i64, .int .i64, .int .i64, .bool, .sl (.agg [.int .i64, .str]), .int .i64, .int .i64, .str, .int .i64, .agg [.int .i64, .int .i64], .int .i64, .int .i64, .int .i64, .int .u8, .int .i64, .int .i64]
abbrev stT : Ty := .agg [.int .i64, .int .i64, msT, .str, .int .i64]
theorem scr_of {x : V} (h : ArgA (.sl stT) x) : ∃ l, Scr x l := by
  obtain ⟨es, h1, h2, h3, h4⟩ := rv_slA h
  have : ∃ l : List Stp, es = l.map stc ∧ ∀ p ∈ l, p.Ok := by
    clear h h1 h3 h4
    induction es with
    | nil => exact ⟨[], rfl, by simp⟩
    | cons e es ih =>
      obtain ⟨l, rfl, h6⟩ := ih fun a ha => h2 a (List.mem_cons_of_mem _ ha)
      have h := h2 e List.mem_cons_self
      simp only [Arg, ArgL] at h
      obtain ⟨a1, b1, rfl, ⟨r1, rfl, v1⟩, ⟨a2, b2, rfl, ⟨r2, rfl, v2⟩, ⟨a3, b3, rfl, hms, ⟨a4, b4, rfl, ⟨r4, rfl, v4⟩, ⟨a5, b5, rfl, ⟨r5, rfl, v5⟩, rfl⟩⟩⟩⟩⟩ := h
      obtain ⟨a0, b0, rfl, ⟨n0, rfl, w0⟩, ⟨a1, b1, rfl, ⟨n1, rfl, w1⟩, ⟨a2, b2, rfl, ⟨n2, rfl, w2⟩, ⟨a3, b3, rfl, ⟨n3, rfl, w3⟩, ⟨a4, b4, rfl, ⟨n4, rfl, w4⟩, ⟨a5, b5, rfl, ⟨n5, rfl, w5⟩, ⟨a6, b6, rfl, ⟨n6, rfl, w6⟩, ⟨a7, b7, rfl, ⟨n7, rfl, w7⟩, ⟨a8, b8, rfl, ⟨n8, rfl⟩, ⟨a9, b9, rfl, hs, ⟨a10, b10, rfl, ⟨n10, rfl, w10⟩, ⟨a11, b11, rfl, ⟨n11, rfl, w11⟩, ⟨a12, b12, rfl, ⟨n12, rfl, w12⟩, ⟨a13, b13, rfl, ⟨n13, rfl, w13⟩, ⟨a14, b14, rfl, ⟨c1, d1, rfl, ⟨p1, rfl, wp1⟩, ⟨c2, d2, rfl, ⟨p2, rfl, wp2⟩, rfl⟩⟩, ⟨a15, b15, rfl, ⟨n15, rfl, w15⟩, ⟨a16, b16, rfl, ⟨n16, rfl, w16⟩, ⟨a17, b17, rfl, ⟨n17, rfl, w17⟩, ⟨a18, b18, rfl, ⟨n18, rfl, w18⟩, ⟨a19, b19, rfl, ⟨n19, rfl, w19⟩, ⟨a20, b20, rfl, ⟨n20, rfl, w20⟩, rfl⟩⟩⟩⟩⟩⟩⟩⟩⟩⟩⟩⟩⟩⟩⟩⟩⟩⟩⟩⟩⟩ := hms
      have h5 : ∃ v, a9 = [v] ∧ Cell1 v := by
        rcases hs with rfl | ⟨a, rfl⟩ | ⟨es, q1, rfl, q2⟩ <;> exact ⟨_, rfl, rfl, rfl⟩
      obtain ⟨v, rfl, hv⟩ := h5
      refine ⟨⟨r1, r2, ⟨n0, n1, n2, n3, n4, n5, n6, n7, n8, v, n10, n11, n12, n13, p1, p2, n15, n16, n17, n18, n19, n20⟩, r4, r5⟩ :: l, rfl, fun p hp => ?_⟩
      rcases List.mem_cons.1 hp with rfl | hp
      · exact ⟨wf64 v2, by simpa [reachBytes] using v4, by simpa [reachBytes] using w12, hv⟩
      · exact h6 p hp
  obtain ⟨l, rfl, h6⟩ := this
  refine ⟨l, h1, h6, by simpa [maxLen] using h3⟩
theorem Scr.at {x : V} {l : List Stp} (h : Scr x l) {i : Nat} (hi : i < l.length) : aSlAddr x (.sc (.int .i64 i)) = some (.elt (l.map stc).flatten (i * 26)) ∧ (i * 26 + 26 ≤ (l.map stc).flatten.length) = True ∧ ((l.map stc).flatten.drop (i * 26)).take 26 = stc l[i] := by
  have := h.rv.at (i := i) (by simpa using hi)
  simpa using this
theorem heavy_ok (k : Nat) (ys : YlF) (σ : St) (x : V) (l : List Stp) (h : Scr x l) (hk : 9223372036854775808 ≤ k) :
    W (callY Tab.tb (k + 1) ys 6 [x] σ) fun r => ∃ b, r.1 = .sc (.bool b) ∧ Kept noX σ r.2 ∧ (b = false → l.length ≤ 120 ∧ ∀ p ∈ l, p.s.length ≤ 16384 ∧ p.m.dat.length ≤ 16384) := by
  rw [s_call (af := Tab.b6) rfl (Nat.le_of_ble_eq_true rfl)]
  have hlen := h.rv.len
  rw [List.length_map] at hlen
  have hsize := h.rv.size
  have hl2 := h.len
  generalize callY Tab.tb k = cy
  simp -implicitDefEqProofs (disch := first | exact nbf rfl | exact nbt rfl | (simp only [ne_eq, reduceCtorEq, not_false_eq_true]; done) | omega | (simp -implicitDefEqProofs only [zN.down] <;> omega) | fail) only [Tab.b6, hlen, XOp.kind, reduceCtorEq, V.bool, V.i64, aUn, aBox, aLoad, aArrAddr, aFold, aEqV, chkAdd, effAdd, AOp.kind, chkAll, chkSee, zP.down, zQ.down, zR.down, simprocAttr]
  repeat (first | refine w_fin ?_ | refine w_seq ?_ | refine w_block ?_ | refine w_reg ?_ | refine w_op ?_ | refine w_dop ?_)
  have mm : ∀ n : Nat, (if (65536 : Int) < (n : Int) then (65536 : Int) else (n : Int)) = ((min n 65536 : Nat) : Int) := fun n => by split <;> omega
  refine W.mono (Q := fun r => (∃ (ρ : Env) (σ' : St), r = ((.ret : Ex), ρ, σ') ∧ ρ 2 = .sc (.bool true) ∧ Kept noX σ σ') ∨ (∃ (ρ : Env) (σ' : St), r = ((.exit 0 : Ex), ρ, σ') ∧ ρ 0 = x ∧ (∀ p ∈ l, p.s.length ≤ 16384 ∧ p.m.dat.length ≤ 16384) ∧ Kept noX σ σ')) ?_ ?_
  · refine w_loop (fun m ρ σ' => ∃ (i n : Nat), m = l.length - i ∧ i ≤ l.length ∧ n ≤ 16384 ∧ ρ 0 = x ∧ ρ 6 = x ∧ ρ 7 = .sc (.int .i64 l.length) ∧ ρ 3 = .sc (.int .i64 n) ∧ ρ 8 = .sc (.int .i64 i) ∧ (∀ p ∈ l.take i, p.s.length ≤ 16384 ∧ p.m.dat.length ≤ 16384) ∧ Kept noX σ σ') l.length (by omega) ?_ ?_
    · refine ⟨0, 0, rfl, Nat.zero_le _, by omega, ?_, ?_, ?_, ?_, ?_, by simp, Kept.refl _ _⟩
      all_goals first | rfl | (simp -implicitDefEqProofs (disch := first | exact nbf rfl | exact nbt rfl | (simp only [ne_eq, reduceCtorEq, not_false_eq_true]; done) | omega | (simp -implicitDefEqProofs only [zN.down] <;> omega) | fail) only [XOp.kind, reduceCtorEq, V.bool, V.i64, aUn, aBox, aLoad, aArrAddr, aFold, aEqV, chkAdd, effAdd, AOp.kind, chkAll, chkSee, zP.down, zQ.down, zR.down, simprocAttr]; done) | (simp -implicitDefEqProofs (disch := first | exact nbf rfl | exact nbt rfl | (simp only [ne_eq, reduceCtorEq, not_false_eq_true]; done) | omega | (simp -implicitDefEqProofs only [zN.down] <;> omega) | fail) only [XOp.kind, reduceCtorEq, V.bool, V.i64, aUn, aBox, aLoad, aArrAddr, aFold, aEqV, chkAdd, effAdd, AOp.kind, chkAll, chkSee, zP.down, zQ.down, zR.down, simprocAttr]; rfl)
    · rintro m ρ σ' ⟨i, n, hm, hi, hn, e0, e6, e7, e3, e8, hp, hkept⟩
      by_cases hl : i < l.length
      · have c1 : decide ((i : Int) < (l.length : Int)) = true := by simpa using hl
        obtain ⟨a1, a2, a3⟩ := h.at hl
        simp only [stc, mc, List.cons_append, List.nil_append] at a3
        have hpo := h.ok _ (List.getElem_mem hl)
        have hs1 := hpo.s
        have ht1 := hpo.t
        have hec := hpo.en
        unfold Cell1 at hec
        have hpi : ∀ p ∈ l.take (i + 1), p ∈ l.take i ∨ p = l[i] := fun p hp' => by
          rw [List.take_add_one, List.getElem?_eq_getElem hl] at hp'
          rcases List.mem_append.1 hp' with h1 | h1
          · exact .inl h1
          · exact .inr (by simpa using h1)
        generalize l[i] = q at *
        have w2 : IntKind.i64.wrap ((i : Int) + 1) = (i : Int) + 1 := wrap64 (by omega) (by omega)
        have w4 : IntKind.i64.wrap ((q.s.length : Int) + (q.m.dat.length : Int)) = ((q.s.length + q.m.dat.length : Nat) : Int) := by rw [wrap64 (by omega) (by omega)]; omega
        have w3 : IntKind.i64.wrap ((n : Int) + ((min (q.s.length + q.m.dat.length) 65536 : Nat) : Int)) = ((n + min (q.s.length + q.m.dat.length) 65536 : Nat) : Int) := by rw [wrap64 (by omega) (by omega)]; omega
        by_cases hg : n + min (q.s.length + q.m.dat.length) 65536 > 16384
        · have c2 : decide (((n + min (q.s.length + q.m.dat.length) 65536 : Nat) : Int) > 16384) = true := by simp only [decide_eq_true_eq]; omega
          simp -implicitDefEqProofs (disch := first | exact nbf rfl | exact nbt rfl | (simp only [ne_eq, reduceCtorEq, not_false_eq_true]; done) | omega | (simp -implicitDefEqProofs only [zN.down] <;> omega) | fail) only [c1, e0, e6, e7, e3, e8, a1, a2, a3, hsize, hec.1, hec.2, mm, w3, w4, c2, XOp.kind, reduceCtorEq, V.bool, V.i64, aUn, aBox, aLoad, aArrAddr, aFold, aEqV, chkAdd, effAdd, AOp.kind, chkAll, chkSee, zP.down, zQ.down, zR.down, simprocAttr]
          left
          refine ⟨_, _, rfl, ?_, hkept.bump⟩
          simp -implicitDefEqProofs (disch := first | exact nbf rfl | exact nbt rfl | (simp only [ne_eq, reduceCtorEq, not_false_eq_true]; done) | omega | (simp -implicitDefEqProofs only [zN.down] <;> omega) | fail) only [XOp.kind, reduceCtorEq, V.bool, V.i64, aUn, aBox, aLoad, aArrAddr, aFold, aEqV, chkAdd, effAdd, AOp.kind, chkAll, chkSee, zP.down, zQ.down, zR.down, simprocAttr]
        · have c2 : decide (((n + min (q.s.length + q.m.dat.length) 65536 : Nat) : Int) > 16384) = false := by simp only [decide_eq_false_iff_not]; omega
          simp -implicitDefEqProofs (disch := first | exact nbf rfl | exact nbt rfl | (simp only [ne_eq, reduceCtorEq, not_false_eq_true]; done) | omega | (simp -implicitDefEqProofs only [zN.down] <;> omega) | fail) only [c1, e0, e6, e7, e3, e8, a1, a2, a3, hsize, hec.1, hec.2, mm, w2, w3, w4, c2, XOp.kind, reduceCtorEq, V.bool, V.i64, aUn, aBox, aLoad, aArrAddr, aFold, aEqV, chkAdd, effAdd, AOp.kind, chkAll, chkSee, zP.down, zQ.down, zR.down, simprocAttr]
          refine ⟨l.length - (i + 1), by omega, i + 1, n + min (q.s.length + q.m.dat.length) 65536, rfl, hl, by omega, by simp, by simp, fun p hp' => ?_, hkept.bump⟩
          rcases hpi p hp' with h1 | rfl
          · exact hp p h1
          · omega
      · have c1 : decide ((i : Int) < (l.length : Int)) = false := by simpa using hl
        have : i = l.length := by omega
        subst this
        rw [List.take_length] at hp
        simp -implicitDefEqProofs (disch := first | exact nbf rfl | exact nbt rfl | (simp only [ne_eq, reduceCtorEq, not_false_eq_true]; done) | omega | (simp -implicitDefEqProofs only [zN.down] <;> omega) | fail) only [c1, e0, e6, e7, e8, XOp.kind, reduceCtorEq, V.bool, V.i64, aUn, aBox, aLoad, aArrAddr, aFold, aEqV, chkAdd, effAdd, AOp.kind, chkAll, chkSee, zP.down, zQ.down, zR.down, simprocAttr]
        right
        refine ⟨_, _, rfl, ?_, hp, hkept⟩
        simp -implicitDefEqProofs (disch := first | exact nbf rfl | exact nbt rfl | (simp only [ne_eq, reduceCtorEq, not_false_eq_true]; done) | omega | (simp -implicitDefEqProofs only [zN.down] <;> omega) | fail) only [e0, XOp.kind, reduceCtorEq, V.bool, V.i64, aUn, aBox, aLoad, aArrAddr, aFold, aEqV, chkAdd, effAdd, AOp.kind, chkAll, chkSee, zP.down, zQ.down, zR.down, simprocAttr]
  · rintro _ (⟨ρ, σ', rfl, e2, hkept⟩ | ⟨ρ, σ', rfl, e0, hp, hkept⟩)
    · simp -implicitDefEqProofs (disch := first | exact nbf rfl | exact nbt rfl | (simp only [ne_eq, reduceCtorEq, not_false_eq_true]; done) | omega | (simp -implicitDefEqProofs only [zN.down] <;> omega) | fail) only [e2, XOp.kind, reduceCtorEq, V.bool, V.i64, aUn, aBox, aLoad, aArrAddr, aFold, aEqV, chkAdd, effAdd, AOp.kind, chkAll, chkSee, zP.down, zQ.down, zR.down, simprocAttr]
      exact ⟨true, rfl, hkept, fun h => by cases h⟩
    · simp -implicitDefEqProofs (disch := first | exact nbf rfl | exact nbt rfl | (simp only [ne_eq, reduceCtorEq, not_false_eq_true]; done) | omega | (simp -implicitDefEqProofs only [zN.down] <;> omega) | fail) only [e0, hlen, XOp.kind, reduceCtorEq, V.bool, V.i64, aUn, aBox, aLoad, aArrAddr, aFold, aEqV, chkAdd, effAdd, AOp.kind, chkAll, chkSee, zP.down, zQ.down, zR.down, simprocAttr]
      refine ⟨_, rfl, hkept, fun hb => ⟨?_, hp⟩⟩
      simp only [decide_eq_false_iff_not] at hb
      omega
end Go.Proofs.Ytehdjkikcfeiaaa.jn
namespace Go.Proofs.Ytehdjkikcfeiaaa.jn
open Go.Ab fr dk
set_option maxRecDepth 100000
set_option maxHeartbeats 8000000
set_option linter.unusedSimpArgs false
set_option linter.unusedVariables false

theorem Fs.same {M M' : DM} {l : List Tk} (h : Fs M l) (e : M'.f 0 = M.f 0) : Fs M' l := by unfold Fs at h ⊢; rw [e]; exact h
theorem eq2 (σ : St) (a b c d : Int) : aEqV σ (.struct [(0, none, .int .i64), (1, none, .int .i64)]) (.agg [.sc (.int .i64 a), .sc (.int .i64 b)]) (.agg [.sc (.int .i64 c), .sc (.int .i64 d)]) = some (a == c && b == d) := by
  simp [aEqV, aEqFs, aPart, aEqInt]
theorem tkc_cells {v : V} {l : List Tk} (h : RV 5 v (l.map tkc)) {i : Nat} (hi : i < l.length) : (l.map tkc).flatten[i * 5 + 3]? = some (.sc (.int .i64 l[i].seq)) ∧ (l.map tkc).flatten[i * 5 + 4]? = some (.str l[i].tx) ∧ ((l.map tkc).flatten.drop (i * 5 + 1)).take 2 = [.sc (.int .i64 l[i].term), .sc (.int .i64 l[i].ep)] ∧ (i * 5 + 1 + 2 ≤ (l.map tkc).flatten.length) = True := by
  have c3 := h.cellAt (i := i) (j := 3) (by simpa using hi) (by omega)
  have c4 := h.cellAt (i := i) (j := 4) (by simpa using hi) (by omega)
  obtain ⟨a1, a2, a3⟩ := tkc_at h hi
  have a2 := of_eq_true a2
  have e : ((l.map tkc).flatten.drop (i * 5 + 1)).take 2 = ((((l.map tkc).flatten.drop (i * 5)).take 5).drop 1).take 2 := by
    rw [List.drop_take, List.take_take, List.drop_drop]
    rfl
  refine ⟨by simpa [tkc] using c3, by simpa [tkc] using c4, by rw [e, a3]; rfl, by simp only [eq_iff_iff, iff_true]; omega⟩
/-- What the answer has to be, behind what came of it. -/
structure Told (m : Ms) (L L' : List Tk) (a : Ms) (e : Int) : Prop where
  en : a.en = .sc .nilS
  l : L' = L ∨ (L' = L ++ [tkm m] ∧ m.k = 9 ∧ tmay L (tkm m) = 0)
  err : a.er ≠ 0 → L' = L
  seq : e = 0 → a.k ≠ 0 → a.seq = (tnx L' m.talk).n - 1 ∧ (a.er = 0 → ¬ tabv (tnx L' m.talk) (tkm m))
theorem told_of {m : Ms} {L L' : List Tk} {M M' : DM} {jbr : Int} {a : Ms} {e : Int} (h : Res m L M M' L' jbr a e) (he : e ≠ 40) (hen : a.en = .sc .nilS) (hf : Fs M L) (hc : Chain L) : Told m L L' a e ∧ jbr = 0 ∧ Fs M' L' ∧ Chain L' := by
  cases h with
  | bad h => exact ⟨⟨hen, .inl rfl, fun _ => rfl, fun h => absurd h (by decide)⟩, rfl, hf, hc⟩
  | same h h2 => exact ⟨⟨hen, .inl rfl, fun _ => rfl, fun _ _ => ⟨h, h2⟩⟩, rfl, hf, hc⟩
  | new k f h h2 h3 =>
    refine ⟨⟨hen, .inr ⟨rfl, k, h3⟩, fun h => absurd h2 h, fun _ _ => ?_⟩, rfl, f, hc.snoc h3⟩
    rw [tnx_snoc]
    unfold tst
    rw [if_pos (show (tkm m).talk = m.talk from rfl)]
    refine ⟨by rw [h]; show m.seq = m.seq + 1 - 1; omega, fun _ => ?_⟩
    unfold tabv
    dsimp only
    omega
  | off => exact absurd rfl he
theorem told_crash {m : Ms} {L L' : List Tk} {M M' : DM} {jbr : Int} {a : Ms} {e : Int} (h : Res m L M M' L' jbr a e) (hf : Fs M L) (hc : Chain L) (keep : List Int) (torn : Int) : ∃ L2, Told m L L2 z0 0 ∧ Fl (M'.crash keep torn) L2 ∧ Chain L2 := by
  have t0 : Told m L L z0 0 := ⟨rfl, .inl rfl, fun h => absurd rfl h, fun _ h => absurd rfl h⟩
  have t1 : m.k = 9 → tmay L (tkm m) = 0 → Told m L (L ++ [tkm m]) z0 0 := fun h1 h2 => ⟨rfl, .inr ⟨rfl, h1, h2⟩, fun h => absurd rfl h, fun _ h => absurd rfl h⟩
  cases h with
  | bad h => exact ⟨L, t0, (fs_crash hf keep torn).fl, hc⟩
  | same h h2 => exact ⟨L, t0, (fs_crash hf keep torn).fl, hc⟩
  | new k f h h2 h3 => exact ⟨_, t1 k h3, (fs_crash f keep torn).fl, hc.snoc h3⟩
  | off k h3 hcr =>
    rcases hcr keep torn with h1 | h1
    · exact ⟨L, t0, h1, hc⟩
    · exact ⟨_, t1 k h3, h1, hc.snoc h3⟩

theorem fences_run (k : Nat) (σ0 : St) (x : V) (l : List Stp) (h : Scr x l) (hk : 9223372036854775808 ≤ k) (σ1 : St) (hw : callY Tab.tb (k + 9) noYl 5 [] σ0 = some (.sc (.bool true), σ1)) :
    W (callY Tab.tb (k + 10) noYl 3 [x] σ0) fun r => r.1 = .sc (.bool true) := by
  rw [s_call (af := Tab.b3) rfl (Nat.le_of_ble_eq_true rfl)]
  have hnew := fun σ => dk.new_ok (k + 8) noYl σ
  have hheavy := fun σ => heavy_ok (k + 8) noYl σ x l h (by omega)
  have hpow := fun σ d M n h => power_ok (k + 8) noYl σ d M n h
  have hopen := fun σ d M h B hm hB => gopen_ok (B := B) (k + 2) noYl σ d M h hm hB (by omega)
  have hdo := fun σ g jb d m L M h hd B hm hB hen hc hL hf hne => do_ok (g := g) (jb := jb) (d := d) (m := m) (L := L) (M := M) (B := B) (k + 1) noYl σ h hd hm hB hen hc hL hf hne (by omega)
  have hcra := fun σ d M kv ks torn h hkv B hm hB => crash_ok (B := B) (k + 6) noYl σ d M kv ks torn h hkv hm hB (by omega)
  have hlist := fun σ g jb d L jbr br hj hl => list_ok (k + 6) noYl σ g jb d L jbr br hj (by omega) hl
  have hsame := fun σ va vb L ha hb hl => same_ok (k + 8) noYl σ va vb L ha hb (by omega) hl
  have hab := fun σ a x => above_ok (k + 8) noYl σ a x
  generalize callY Tab.tb (k + 9) = cy at hw hnew hheavy hpow hopen hdo hcra hlist hsame hab ⊢
  have hlen := h.rv.len
  rw [List.length_map] at hlen
  have hsize := h.rv.size
  simp -implicitDefEqProofs (disch := first | exact nbf rfl | exact nbt rfl | (simp only [ne_eq, reduceCtorEq, not_false_eq_true]; done) | omega | (simp -implicitDefEqProofs only [zN.down] <;> omega) | fail) only [Tab.b3, hw, XOp.kind, reduceCtorEq, V.bool, V.i64, aUn, aBox, aLoad, aArrAddr, aFold, aEqV, chkAdd, effAdd, AOp.kind, chkAll, chkSee, zP.down, zQ.down, zR.down, simprocAttr]
  repeat (first | refine w_fin ?_ | refine w_seq ?_ | refine w_block ?_ | refine w_reg ?_ | refine w_op ?_ | refine w_dop ?_)
  refine (hheavy σ1).mono ?_
  rintro ⟨_, σ2⟩ ⟨hb, rfl, _, hh⟩
  cases hb with
  | true => simp -implicitDefEqProofs (disch := first | exact nbf rfl | exact nbt rfl | (simp only [ne_eq, reduceCtorEq, not_false_eq_true]; done) | omega | (simp -implicitDefEqProofs only [zN.down] <;> omega) | fail) only [XOp.kind, reduceCtorEq, V.bool, V.i64, aUn, aBox, aLoad, aArrAddr, aFold, aEqV, chkAdd, effAdd, AOp.kind, chkAll, chkSee, zP.down, zQ.down, zR.down, simprocAttr]
  | false =>
  obtain ⟨hl120, hs⟩ := hh rfl
  simp -implicitDefEqProofs (disch := first | exact nbf rfl | exact nbt rfl | (simp only [ne_eq, reduceCtorEq, not_false_eq_true]; done) | omega | (simp -implicitDefEqProofs only [zN.down] <;> omega) | fail) only [XOp.kind, reduceCtorEq, V.bool, V.i64, aUn, aBox, aLoad, aArrAddr, aFold, aEqV, chkAdd, effAdd, AOp.kind, chkAll, chkSee, zP.down, zQ.down, zR.down, simprocAttr]
  repeat (first | refine w_fin ?_ | refine w_seq ?_ | refine w_block ?_ | refine w_reg ?_ | refine w_op ?_ | refine w_dop ?_)
  refine (hnew σ2).mono ?_
  rintro ⟨_, σ3⟩ ⟨rfl, hd3, _, hn3⟩
  dsimp only at hd3 hn3
  generalize σ2.n = d at *
  have zl : Fl D0 [] := .inl ⟨rfl, rfl⟩
  obtain ⟨M0, hM0, hp0, hf0⟩ := jopen_fl (M := D0) (l := []) rfl zl Chain.nil
  have hok0 := jopen_ok (DM.Ok.zero 0)
  have ho := hopen σ3 d D0 hd3 0 (DM.Ok.zero 0) (by omega)
  rw [hM0] at ho hok0
  simp -implicitDefEqProofs (disch := first | exact nbf rfl | exact nbt rfl | (simp only [ne_eq, reduceCtorEq, not_false_eq_true]; done) | omega | (simp -implicitDefEqProofs only [zN.down] <;> omega) | fail) only [XOp.kind, reduceCtorEq, V.bool, V.i64, aUn, aBox, aLoad, aArrAddr, aFold, aEqV, chkAdd, effAdd, AOp.kind, chkAll, chkSee, zP.down, zQ.down, zR.down, simprocAttr]
  repeat (first | refine w_fin ?_ | refine w_seq ?_ | refine w_block ?_ | refine w_reg ?_ | refine w_op ?_ | refine w_dop ?_)
  refine ho.mono ?_
  rintro ⟨_, σ4⟩ ⟨g, jb, rfl, hg4, hd4, k4⟩
  dsimp only at hg4 hd4 k4
  obtain ⟨hg4, hgn, hgj⟩ := hg4 rfl
  have hne : jb ≠ d ∧ g ≠ d ∧ g ≠ jb := by omega
  clear ho hM0 zl hd3
  simp -implicitDefEqProofs (disch := first | exact nbf rfl | exact nbt rfl | (simp only [ne_eq, reduceCtorEq, not_false_eq_true]; done) | omega | (simp -implicitDefEqProofs only [zN.down] <;> omega) | fail) only [hlen, XOp.kind, reduceCtorEq, V.bool, V.i64, aUn, aBox, aLoad, aArrAddr, aFold, aEqV, chkAdd, effAdd, AOp.kind, chkAll, chkSee, zP.down, zQ.down, zR.down, simprocAttr]
  repeat (first | refine w_fin ?_ | refine w_seq ?_ | refine w_block ?_ | refine w_reg ?_ | refine w_op ?_ | refine w_dop ?_)
  refine W.mono (Q := fun r => ∃ (ρ : Env) (σ : St), r = ((.exit 0 : Ex), ρ, σ)) ?_ ?_
  · refine w_loop (fun m ρ σ => ∃ (i g jb : Nat) (M : DM) (sv : V) (L : List Tk), m = l.length - i ∧ i ≤ l.length ∧ DR σ d M ∧ M.Ok (2 + 5 * i) ∧ GR σ g jb d L 0 0 ∧ Fs M L ∧ Chain L ∧ L.length ≤ i ∧ (jb ≠ d ∧ g ≠ d ∧ g ≠ jb) ∧ RV 5 sv (L.map tkc) ∧ ρ 3 = .ptr d 0 ∧ ρ 4 = .ptr g 0 ∧ ρ 6 = sv ∧ ρ 29 = x ∧ ρ 30 = .sc (.int .i64 l.length) ∧ ρ 31 = .sc (.int .i64 i)) l.length (by omega) ?_ ?_
    · refine ⟨0, g, jb, M0, .sc .nilS, [], rfl, Nat.zero_le _, hd4, hok0.more (by omega), hg4, hf0, Chain.nil, Nat.le_refl _, hne, .nil, ?_, ?_, ?_, ?_, ?_, ?_⟩
      all_goals first | rfl | (simp -implicitDefEqProofs (disch := first | exact nbf rfl | exact nbt rfl | (simp only [ne_eq, reduceCtorEq, not_false_eq_true]; done) | omega | (simp -implicitDefEqProofs only [zN.down] <;> omega) | fail) only [XOp.kind, reduceCtorEq, V.bool, V.i64, aUn, aBox, aLoad, aArrAddr, aFold, aEqV, chkAdd, effAdd, AOp.kind, chkAll, chkSee, zP.down, zQ.down, zR.down, simprocAttr]; done) | (simp -implicitDefEqProofs (disch := first | exact nbf rfl | exact nbt rfl | (simp only [ne_eq, reduceCtorEq, not_false_eq_true]; done) | omega | (simp -implicitDefEqProofs only [zN.down] <;> omega) | fail) only [XOp.kind, reduceCtorEq, V.bool, V.i64, aUn, aBox, aLoad, aArrAddr, aFold, aEqV, chkAdd, effAdd, AOp.kind, chkAll, chkSee, zP.down, zQ.down, zR.down, simprocAttr]; rfl)
    · clear hd4 hg4 hf0 hok0 hne hp0 hgn hgj k4
      rintro m ρ σ ⟨i, g, jb, M, sv, L, hm, hi, hd, hM, hg, hf, hc, hLi, hne, hsv, e3, e4, e6, e29, e30, e31⟩
      by_cases hl : i < l.length
      · have d1 : decide ((i : Int) < (l.length : Int)) = true := by simpa using hl
        obtain ⟨a1, a2, a3⟩ := h.at hl
        have hpo := h.ok _ (List.getElem_mem hl)
        have hsl := hs _ (List.getElem_mem hl)
        have w3 : IntKind.i64.wrap ((i : Int) + 1) = ((i + 1 : Nat) : Int) := wrap64 (by omega) (by omega)
        generalize l[i] = p at *
        have hec := hpo.en
        unfold Cell1 at hec
        have kb : Kept noX σ σ.bump := (Kept.refl noX σ).bump
        have hdb := hd.kept kb (fun h => h)
        have hgb := hg.kept0 kb
        have ha3 := a3
        simp only [stc, mc, List.cons_append, List.nil_append] at ha3
        by_cases q2 : p.k = 2
        · have c2 := beq_iff_eq.2 q2
          have m1 := max64 p.n 0
          have hnn := hpo.n
          simp -implicitDefEqProofs (disch := first | exact nbf rfl | exact nbt rfl | (simp only [ne_eq, reduceCtorEq, not_false_eq_true]; done) | omega | (simp -implicitDefEqProofs only [zN.down] <;> omega) | fail) only [d1, e3, e4, e6, e29, e30, e31, a1, a2, ha3, hsize, hec.1, hec.2, c2, m1, w3, XOp.kind, reduceCtorEq, V.bool, V.i64, aUn, aBox, aLoad, aArrAddr, aFold, aEqV, chkAdd, effAdd, AOp.kind, chkAll, chkSee, zP.down, zQ.down, zR.down, simprocAttr]
          repeat (first | refine w_fin ?_ | refine w_seq ?_ | refine w_block ?_ | refine w_reg ?_ | refine w_op ?_ | refine w_dop ?_)
          refine (hpow σ.bump d M (max p.n 0) hdb).mono ?_
          rintro ⟨_, σ5⟩ ⟨rfl, hd5, k5, _⟩
          dsimp only at hd5 k5
          have hg5 := hgb.kept k5 hne.2.1 hne.1 (by
            rintro _ rfl
            obtain ⟨cs, g1, _⟩ := hdb
            exact ⟨cs, g1⟩)
          simp -implicitDefEqProofs (disch := first | exact nbf rfl | exact nbt rfl | (simp only [ne_eq, reduceCtorEq, not_false_eq_true]; done) | omega | (simp -implicitDefEqProofs only [zN.down] <;> omega) | fail) only [e3, e4, e6, e29, e30, e31, w3, XOp.kind, reduceCtorEq, V.bool, V.i64, aUn, aBox, aLoad, aArrAddr, aFold, aEqV, chkAdd, effAdd, AOp.kind, chkAll, chkSee, zP.down, zQ.down, zR.down, simprocAttr]
          exact ⟨l.length - (i + 1), by omega, i + 1, g, jb, _, sv, L, rfl, hl, hd5, (hM.power (n := max p.n 0) (by omega)).more (by omega), hg5, hf.same rfl, hc, by omega, hne, hsv, rfl, rfl, rfl⟩
        have c2 := beq_eq_false_iff_ne.2 q2
        have f1 := hdo σ.bump g jb d p.m L M hgb hdb _ hM (by omega) hpo.en hc (by omega) hf hne
        simp only [mc] at f1
        simp -implicitDefEqProofs (disch := first | exact nbf rfl | exact nbt rfl | (simp only [ne_eq, reduceCtorEq, not_false_eq_true]; done) | omega | (simp -implicitDefEqProofs only [zN.down] <;> omega) | fail) only [d1, e3, e4, e6, e29, e30, e31, a1, a2, ha3, hsize, hec.1, hec.2, c2, w3, XOp.kind, reduceCtorEq, V.bool, V.i64, aUn, aBox, aLoad, aArrAddr, aFold, aEqV, chkAdd, effAdd, AOp.kind, chkAll, chkSee, zP.down, zQ.down, zR.down, simprocAttr]
        repeat (first | refine w_fin ?_ | refine w_seq ?_ | refine w_block ?_ | refine w_reg ?_ | refine w_op ?_ | refine w_dop ?_)
        refine f1.mono ?_
        rintro ⟨_, σ5⟩ ⟨a, e, M', L', jbr, rfl, hae, hres, hg5, hd5, hok5, k5⟩
        dsimp only at hg5 hd5 k5
        simp -implicitDefEqProofs (disch := first | exact nbf rfl | exact nbt rfl | (simp only [ne_eq, reduceCtorEq, not_false_eq_true]; done) | omega | (simp -implicitDefEqProofs only [zN.down] <;> omega) | fail) only [hae, hec.1, hec.2, e3, e4, e6, e29, e30, e31, XOp.kind, s_nil, s_cons, s_consG, s_op, s_gtt, s_gff, s_gtf, s_gft, s_region, s_reg, s_seqn, s_seqr, s_seqe, s_skip, s_ret, s_exit, s_cond, s_condt, s_condf, s_block, s_blockn, s_blockr, s_blocke, s_finr, s_finn, Option.map_some, Option.map_none, upd_o, upd_s, ne_eq, reduceCtorEq, not_false_eq_true, List.getElem?_cons_zero, List.getElem?_cons_succ, Option.getD_some, Bool.false_eq_true, if_false, if_true, V.bool, V.i64, List.mapM_cons, List.mapM_nil, Option.bind_eq_bind, Option.bind_some, Option.pure_def, beq_tt, beq_tf, beq_ft, beq_ff, Bool.not_true, Bool.not_false, Nat.succ_ne_zero, List.map_cons, List.map_nil, aUn, BEq.rfl, aBox, aLoad, aArrAddr, aFold, aEqV, c_agg, c_sc, c_str, c_ptr, c_elt, c_vs, c_os, c_mp, c_fn, o_sc, o_str, o_ptr, o_elt, o_vs, o_os, o_mp, o_fn, not_true_eq_false, x_reg, x_rput, p_agg, St.get_bump, St.n_bump, c_ifc, o_ifc, List.all_cons, List.all_nil, Bool.and_true, Bool.and_self, List.drop_succ_cons, List.drop_zero, List.take_succ_cons, List.take_zero, List.length_cons, List.length_nil, Nat.zero_add, Nat.add_zero, Nat.mul_one, List.cons_append, List.nil_append, St.n_push, St.n_put, get_push_eq, get_push_ne, get_put_eq, get_put_ne, w_some, Nat.le_refl, true_and, and_true, and_self, List.append_nil, b_add, b_sub, b_mul, b_quo, b_rem, b_and, b_or, b_xor, b_eql, b_neq, b_lss, b_leq, b_gtr, b_geq, Int.cast_ofNat_Int, Int.toNat_zero, Int.toNat_one, decide_true, decide_false, bne_self_eq_false, d_draw, d_nil, d_e, d_cons, d_consG, d_op, d_gtt, d_gff, d_gtf, d_gft, chkAdd, effAdd, AOp.kind, chkAll, chkSee, Bool.true_and, s_gu, d_gu, zQ.down, zR.down, simprocAttr]
        rw [s_seq]
        refine w_seq ?_
        refine W.mono (Q := fun r => ∃ (ρ' : Env) (σ' : St) (g' jb' : Nat) (M2 : DM) (L2 : List Tk) (a2 : Ms) (e2 : Int), r = ((.normal : Ex), ρ', σ') ∧ DR σ' d M2 ∧ M2.Ok (7 + 5 * i) ∧ GR σ' g' jb' d L2 0 0 ∧ Fs M2 L2 ∧ Chain L2 ∧ (jb' ≠ d ∧ g' ≠ d ∧ g' ≠ jb') ∧ Told p.m L L2 a2 e2 ∧ ρ' 3 = .ptr d 0 ∧ ρ' 6 = sv ∧ ρ' 8 = .agg (stc p) ∧ ρ' 29 = x ∧ ρ' 30 = .sc (.int .i64 l.length) ∧ ρ' 31 = .sc (.int .i64 i) ∧ ρ' 4 = .ptr g' 0 ∧ ρ' 9 = .agg (mc a2) ∧ ρ' 10 = .sc (.int .i64 e2)) ?_ ?_
        · by_cases hcr : e = 40 ∨ p.k = 3
          · have bs : aBslice 1 1 [.sc (.int .i64 0)] [(0, 1, .sc (.int .i64 p.kp))] = some (.vs .exact 1 1 [.sc (.int .i64 p.kp)]) := rfl
            have hkv : RV 1 (.vs .exact 1 1 [.sc (.int .i64 p.kp)]) ([p.kp].map kc) := RV.vs (own := .exact) (es := [p.kp].map kc) (by simp [kc]) (by simp [kc, V.oneCell])
            have f2 := hcra σ5.bump d M' _ [p.kp] p.n (hd5.kept (Kept.refl noX σ5).bump (fun h => h)) hkv _ hok5 (by omega)
            obtain ⟨L2, htold, hfl, hcl⟩ := told_crash hres hf hc [p.kp] p.n
            have hokc := hok5.crash [p.kp] p.n
            have hpc : (M'.crash [p.kp] p.n).power = -1 := rfl
            have c3 : ((0 : Int) != 0) = false := rfl
            have tail : ∀ σ6, DR σ6 d (M'.crash [p.kp] p.n) → W (cy noYl 8 [.ptr d 0] σ6) fun r => ∃ g' jb' M2, r.1 = .tup [.ptr g' 0, .sc (.int .i64 0)] ∧ GR r.2 g' jb' d L2 0 0 ∧ DR r.2 d M2 ∧ M2.Ok (7 + 5 * i) ∧ Fs M2 L2 ∧ (jb' ≠ d ∧ g' ≠ d ∧ g' ≠ jb') := by
              intro σ6 hd6
              obtain ⟨M2, hM2, hp2, hf2⟩ := jopen_fl hpc hfl hcl
              have hok2 := jopen_ok hokc
              have ho := hopen σ6 d _ hd6 _ hokc (by omega)
              rw [hM2] at ho hok2
              refine ho.mono ?_
              rintro ⟨_, σ7⟩ ⟨g', jb', rfl, hg7, hd7, k7⟩
              obtain ⟨hg7, hn1, hn2⟩ := hg7 rfl
              have := hd6.lt
              exact ⟨g', jb', M2, rfl, hg7, hd7, hok2.more (by omega), hf2, by omega⟩
            generalize M'.crash [p.kp] p.n = Mc at *
            cases c40 : (e == 40) with
            | true =>
              simp -implicitDefEqProofs (disch := first | exact nbf rfl | exact nbt rfl | (simp only [ne_eq, reduceCtorEq, not_false_eq_true]; done) | omega | (simp -implicitDefEqProofs only [zN.down] <;> omega) | fail) only [c40, bs, e3, e4, e6, e29, e30, e31, hec.1, hec.2, XOp.kind, reduceCtorEq, V.bool, V.i64, aUn, aBox, aLoad, aArrAddr, aFold, aEqV, chkAdd, effAdd, AOp.kind, chkAll, chkSee, zP.down, zQ.down, zR.down, simprocAttr]
              repeat (first | refine w_fin ?_ | refine w_seq ?_ | refine w_block ?_ | refine w_reg ?_ | refine w_op ?_ | refine w_dop ?_)
              refine f2.mono ?_
              rintro ⟨_, σ6⟩ ⟨rfl, hd6, k6⟩
              dsimp only at hd6 k6
              simp -implicitDefEqProofs (disch := first | exact nbf rfl | exact nbt rfl | (simp only [ne_eq, reduceCtorEq, not_false_eq_true]; done) | omega | (simp -implicitDefEqProofs only [zN.down] <;> omega) | fail) only [e3, e4, e6, e29, e30, e31, XOp.kind, reduceCtorEq, V.bool, V.i64, aUn, aBox, aLoad, aArrAddr, aFold, aEqV, chkAdd, effAdd, AOp.kind, chkAll, chkSee, zP.down, zQ.down, zR.down, simprocAttr]
              repeat (first | refine w_fin ?_ | refine w_seq ?_ | refine w_block ?_ | refine w_reg ?_ | refine w_op ?_ | refine w_dop ?_)
              refine (tail σ6 hd6).mono ?_
              rintro ⟨_, σ7⟩ ⟨g', jb', M2, rfl, hg7, hd7, hok7, hf7, hne7⟩
              dsimp only at hg7 hd7
              simp -implicitDefEqProofs (disch := first | exact nbf rfl | exact nbt rfl | (simp only [ne_eq, reduceCtorEq, not_false_eq_true]; done) | omega | (simp -implicitDefEqProofs only [zN.down] <;> omega) | fail) only [c3, dk.pnil, hae, XOp.kind, reduceCtorEq, V.bool, V.i64, aUn, aBox, aLoad, aArrAddr, aFold, chkAdd, effAdd, AOp.kind, chkAll, chkSee, zP.down, zQ.down, zR.down, simprocAttr]
              refine ⟨_, _, g', jb', M2, L2, z0, 0, rfl, hd7, hok7, hg7, hf7, hcl, hne7, htold, ?_, ?_, ?_, ?_, ?_, ?_, ?_, ?_, ?_⟩
              all_goals ((try simp only [stc, mc, z0, List.cons_append, List.nil_append]); simp -implicitDefEqProofs (disch := first | exact nbf rfl | exact nbt rfl | (simp only [ne_eq, reduceCtorEq, not_false_eq_true]; done) | omega | (simp -implicitDefEqProofs only [zN.down] <;> omega) | fail) only [e3, e4, e6, e29, e30, e31, XOp.kind, reduceCtorEq, V.bool, V.i64, aUn, aBox, aLoad, aArrAddr, aFold, aEqV, chkAdd, effAdd, AOp.kind, chkAll, chkSee, zP.down, zQ.down, zR.down, simprocAttr]; done)
            | false =>
              have p3 : (p.k == 3) = true := by
                have h40 : e ≠ 40 := by simpa using c40
                simp only [beq_iff_eq]
                exact hcr.resolve_left h40
              simp -implicitDefEqProofs (disch := first | exact nbf rfl | exact nbt rfl | (simp only [ne_eq, reduceCtorEq, not_false_eq_true]; done) | omega | (simp -implicitDefEqProofs only [zN.down] <;> omega) | fail) only [c40, p3, bs, e3, e4, e6, e29, e30, e31, hec.1, hec.2, XOp.kind, reduceCtorEq, V.bool, V.i64, aUn, aBox, aLoad, aArrAddr, aFold, aEqV, chkAdd, effAdd, AOp.kind, chkAll, chkSee, zP.down, zQ.down, zR.down, simprocAttr]
              repeat (first | refine w_fin ?_ | refine w_seq ?_ | refine w_block ?_ | refine w_reg ?_ | refine w_op ?_ | refine w_dop ?_)
              refine f2.mono ?_
              rintro ⟨_, σ6⟩ ⟨rfl, hd6, k6⟩
              dsimp only at hd6 k6
              simp -implicitDefEqProofs (disch := first | exact nbf rfl | exact nbt rfl | (simp only [ne_eq, reduceCtorEq, not_false_eq_true]; done) | omega | (simp -implicitDefEqProofs only [zN.down] <;> omega) | fail) only [e3, e4, e6, e29, e30, e31, XOp.kind, reduceCtorEq, V.bool, V.i64, aUn, aBox, aLoad, aArrAddr, aFold, aEqV, chkAdd, effAdd, AOp.kind, chkAll, chkSee, zP.down, zQ.down, zR.down, simprocAttr]
              repeat (first | refine w_fin ?_ | refine w_seq ?_ | refine w_block ?_ | refine w_reg ?_ | refine w_op ?_ | refine w_dop ?_)
              refine (tail σ6 hd6).mono ?_
              rintro ⟨_, σ7⟩ ⟨g', jb', M2, rfl, hg7, hd7, hok7, hf7, hne7⟩
              dsimp only at hg7 hd7
              simp -implicitDefEqProofs (disch := first | exact nbf rfl | exact nbt rfl | (simp only [ne_eq, reduceCtorEq, not_false_eq_true]; done) | omega | (simp -implicitDefEqProofs only [zN.down] <;> omega) | fail) only [c3, dk.pnil, hae, XOp.kind, reduceCtorEq, V.bool, V.i64, aUn, aBox, aLoad, aArrAddr, aFold, chkAdd, effAdd, AOp.kind, chkAll, chkSee, zP.down, zQ.down, zR.down, simprocAttr]
              refine ⟨_, _, g', jb', M2, L2, z0, 0, rfl, hd7, hok7, hg7, hf7, hcl, hne7, htold, ?_, ?_, ?_, ?_, ?_, ?_, ?_, ?_, ?_⟩
              all_goals ((try simp only [stc, mc, z0, List.cons_append, List.nil_append]); simp -implicitDefEqProofs (disch := first | exact nbf rfl | exact nbt rfl | (simp only [ne_eq, reduceCtorEq, not_false_eq_true]; done) | omega | (simp -implicitDefEqProofs only [zN.down] <;> omega) | fail) only [e3, e4, e6, e29, e30, e31, XOp.kind, reduceCtorEq, V.bool, V.i64, aUn, aBox, aLoad, aArrAddr, aFold, aEqV, chkAdd, effAdd, AOp.kind, chkAll, chkSee, zP.down, zQ.down, zR.down, simprocAttr]; done)
          · have h40 : e ≠ 40 := fun h => hcr (.inl h)
            have c40 : (e == 40) = false := by simpa using h40
            have p3 : (p.k == 3) = false := by simp; exact fun h => hcr (.inr h)
            obtain ⟨htold, hj0, hf2, hc2⟩ := told_of hres h40 hae hf hc
            have hg5 := hg5 h40
            rw [hj0] at hg5
            simp -implicitDefEqProofs (disch := first | exact nbf rfl | exact nbt rfl | (simp only [ne_eq, reduceCtorEq, not_false_eq_true]; done) | omega | (simp -implicitDefEqProofs only [zN.down] <;> omega) | fail) only [c40, p3, XOp.kind, reduceCtorEq, V.bool, V.i64, aUn, aBox, aLoad, aArrAddr, aFold, aEqV, chkAdd, effAdd, AOp.kind, chkAll, chkSee, zP.down, zQ.down, zR.down, simprocAttr]
            refine ⟨_, _, g, jb, M', L', a, e, rfl, hd5.kept (Kept.refl noX σ5).bump (fun h => h), hok5.more (by omega), hg5.kept0 (Kept.refl noX σ5).bump, hf2, hc2, hne, htold, ?_, ?_, ?_, ?_, ?_, ?_, ?_, ?_, ?_⟩
            all_goals ((try simp only [stc, mc, List.cons_append, List.nil_append]); simp -implicitDefEqProofs (disch := first | exact nbf rfl | exact nbt rfl | (simp only [ne_eq, reduceCtorEq, not_false_eq_true]; done) | omega | (simp -implicitDefEqProofs only [zN.down] <;> omega) | fail) only [e3, e4, e6, e29, e30, e31, hae, XOp.kind, reduceCtorEq, V.bool, V.i64, aUn, aBox, aLoad, aArrAddr, aFold, aEqV, chkAdd, effAdd, AOp.kind, chkAll, chkSee, zP.down, zQ.down, zR.down, simprocAttr]; done)
        · clear hg5 hd5 hok5 k5 hres hg hd hM f1 hgb hdb kb e3 e4 e6 e29 e30 e31 hae
          rintro _ ⟨ρ, σ, g', jb', M2, L2, a2, e2, rfl, hd, hM, hg, hf2, hc2, hne2, ht, e3, e6, e8, e29, e30, e31, e4, e9, e10⟩
          have hae := ht.en
          simp only [stc, mc, hae, List.cons_append, List.nil_append] at e8 e9
          have hLl : L2.length = L.length ∨ L2.length = L.length + 1 := by
            rcases ht.l with h1 | ⟨h1, _, _⟩ <;> rw [h1]
            · exact .inl rfl
            · right; simp
          simp -implicitDefEqProofs (disch := first | exact nbf rfl | exact nbt rfl | (simp only [ne_eq, reduceCtorEq, not_false_eq_true]; done) | omega | (simp -implicitDefEqProofs only [zN.down] <;> omega) | fail) only [e3, e6, e8, e29, e30, e31, e4, XOp.kind, reduceCtorEq, V.bool, V.i64, aUn, aBox, aLoad, aArrAddr, aFold, aEqV, chkAdd, effAdd, AOp.kind, chkAll, chkSee, zP.down, zQ.down, zR.down, simprocAttr]
          repeat (first | refine w_fin ?_ | refine w_seq ?_ | refine w_block ?_ | refine w_reg ?_ | refine w_op ?_ | refine w_dop ?_)
          refine (hlist σ g' jb' d L2 0 0 hg (by omega)).mono ?_
          rintro ⟨_, σ8⟩ ⟨v, rfl, how8, k8⟩
          dsimp only at how8 k8
          have hv := how8.rv
          have vlen := hv.len
          have vsize := hv.size
          have slen := hsv.len
          rw [List.length_map] at vlen slen
          have vc := hv.cell
          have sc := hsv.cell
          obtain ⟨y, hy, yv⟩ := hv.take (i := L.length) (by rw [List.length_map]; omega)
          have hsl2 : ∀ σ, aSliceR σ v none (some (.sc (.int .i64 L.length))) none = some y := hy
          have hyL : (L2.map tkc).take L.length = L.map tkc := by
            rcases ht.l with h1 | ⟨h1, _, _⟩
            · rw [h1]; exact List.take_of_length_le (by simp)
            · rw [h1, List.map_append, List.take_append_of_le_length (by simp), List.take_of_length_le (by simp)]
          rw [hyL] at yv
          have w4 : IntKind.i64.wrap ((L.length : Int) + 1) = ((L.length + 1 : Nat) : Int) := wrap64 (by omega) (by omega)
          have d5 : decide ((L2.length : Int) < (L.length : Int)) = false := by simp only [decide_eq_false_iff_not]; omega
          have d6 : decide ((L2.length : Int) > ((L.length + 1 : Nat) : Int)) = false := by simp only [decide_eq_false_iff_not]; omega
          have hsm := hsame σ8 y sv L yv hsv (by omega)
          simp -implicitDefEqProofs (disch := first | exact nbf rfl | exact nbt rfl | (simp only [ne_eq, reduceCtorEq, not_false_eq_true]; done) | omega | (simp -implicitDefEqProofs only [zN.down] <;> omega) | fail) only [e3, e6, e8, e29, e30, e31, vlen, slen, vsize, vc.1, vc.2, sc.1, sc.2, hsl2, w4, d5, d6, XOp.kind, reduceCtorEq, V.bool, V.i64, aUn, aBox, aLoad, aArrAddr, aFold, aEqV, chkAdd, effAdd, AOp.kind, chkAll, chkSee, zP.down, zQ.down, zR.down, simprocAttr]
          repeat (first | refine w_fin ?_ | refine w_seq ?_ | refine w_block ?_ | refine w_reg ?_ | refine w_op ?_ | refine w_dop ?_)
          refine hsm.mono ?_
          rintro ⟨_, σ9⟩ ⟨rfl, k9⟩
          dsimp only at k9
          have k89 := k8.trans k9
          have hd9 := hd.kept k89 (fun h => h)
          have hg9 := hg.kept0 k89
          clear hsm how8
          have fa : ∀ a : Int, (a != a) = false := fun a => by simp
          have bne : ∀ s : List UInt8, aBin .neq (.str s) (.str s) = some (.sc (.bool false)) := fun s => by simp [aBin, aStr]
          simp -implicitDefEqProofs (disch := first | exact nbf rfl | exact nbt rfl | (simp only [ne_eq, reduceCtorEq, not_false_eq_true]; done) | omega | (simp -implicitDefEqProofs only [zN.down] <;> omega) | fail) only [XOp.kind, s_nil, s_cons, s_consG, s_op, s_gtt, s_gff, s_gtf, s_gft, s_region, s_reg, s_seqn, s_seqr, s_seqe, s_skip, s_ret, s_exit, s_cond, s_condt, s_condf, s_block, s_blockn, s_blockr, s_blocke, s_finr, s_finn, Option.map_some, Option.map_none, upd_o, upd_s, ne_eq, reduceCtorEq, not_false_eq_true, List.getElem?_cons_zero, List.getElem?_cons_succ, Option.getD_some, Bool.false_eq_true, if_false, if_true, V.bool, V.i64, List.mapM_cons, List.mapM_nil, Option.bind_eq_bind, Option.bind_some, Option.pure_def, beq_tt, beq_tf, beq_ft, beq_ff, Bool.not_true, Bool.not_false, Nat.succ_ne_zero, List.map_cons, List.map_nil, aUn, BEq.rfl, aBox, aLoad, aArrAddr, aFold, aEqV, c_agg, c_sc, c_str, c_ptr, c_elt, c_vs, c_os, c_mp, c_fn, o_sc, o_str, o_ptr, o_elt, o_vs, o_os, o_mp, o_fn, not_true_eq_false, x_reg, x_rput, p_agg, St.get_bump, St.n_bump, c_ifc, o_ifc, List.all_cons, List.all_nil, Bool.and_true, Bool.and_self, List.drop_succ_cons, List.drop_zero, List.take_succ_cons, List.take_zero, List.length_cons, List.length_nil, Nat.zero_add, Nat.add_zero, Nat.mul_one, List.cons_append, List.nil_append, St.n_push, St.n_put, get_push_eq, get_push_ne, get_put_eq, get_put_ne, w_some, Nat.le_refl, true_and, and_true, and_self, List.append_nil, b_add, b_sub, b_mul, b_quo, b_rem, b_and, b_or, b_xor, b_eql, b_neq, b_lss, b_leq, b_gtr, b_geq, Int.cast_ofNat_Int, Int.toNat_zero, Int.toNat_one, decide_true, decide_false, bne_self_eq_false, d_draw, d_nil, d_e, d_cons, d_consG, d_op, d_gtt, d_gff, d_gtf, d_gft, chkAdd, effAdd, AOp.kind, chkAll, chkSee, Bool.true_and, s_gu, d_gu, zQ.down, zR.down, simprocAttr]
          rw [s_seq]
          refine w_seq ?_
          refine W.mono (Q := fun r => ∃ (ρ' : Env), r = ((.normal : Ex), ρ', σ9) ∧ ρ' 3 = .ptr d 0 ∧ ρ' 4 = .ptr g' 0 ∧ ρ' 6 = sv ∧ ρ' 8 = .agg (stc p) ∧ ρ' 9 = .agg (mc a2) ∧ ρ' 10 = .sc (.int .i64 e2) ∧ ρ' 11 = v ∧ ρ' 29 = x ∧ ρ' 30 = .sc (.int .i64 l.length) ∧ ρ' 31 = .sc (.int .i64 i)) ?_ ?_
          · by_cases er0 : a2.er = 0
            · have d7 : (a2.er != 0) = false := by simp [er0]
              simp -implicitDefEqProofs (disch := first | exact nbf rfl | exact nbt rfl | (simp only [ne_eq, reduceCtorEq, not_false_eq_true]; done) | omega | (simp -implicitDefEqProofs only [zN.down] <;> omega) | fail) only [e3, e6, e8, e29, e30, e31, e4, e9, e10, d7, XOp.kind, reduceCtorEq, V.bool, V.i64, aUn, aBox, aLoad, aArrAddr, aFold, aEqV, chkAdd, effAdd, AOp.kind, chkAll, chkSee, zP.down, zQ.down, zR.down, simprocAttr]
              refine ⟨_, rfl, ?_, ?_, ?_, ?_, ?_, ?_, ?_, ?_, ?_, ?_⟩
              all_goals ((try simp only [stc, mc, hae, List.cons_append, List.nil_append]); simp -implicitDefEqProofs (disch := first | exact nbf rfl | exact nbt rfl | (simp only [ne_eq, reduceCtorEq, not_false_eq_true]; done) | omega | (simp -implicitDefEqProofs only [zN.down] <;> omega) | fail) only [e3, e6, e8, e29, e30, e31, e4, e9, e10, XOp.kind, reduceCtorEq, V.bool, V.i64, aUn, aBox, aLoad, aArrAddr, aFold, aEqV, chkAdd, effAdd, AOp.kind, chkAll, chkSee, zP.down, zQ.down, zR.down, simprocAttr]; done)
            · have d7 : (a2.er != 0) = true := by simp [er0]
              have d8 : ((L2.length : Int) != (L.length : Int)) = false := by rw [ht.err er0]; simp
              simp -implicitDefEqProofs (disch := first | exact nbf rfl | exact nbt rfl | (simp only [ne_eq, reduceCtorEq, not_false_eq_true]; done) | omega | (simp -implicitDefEqProofs only [zN.down] <;> omega) | fail) only [e3, e6, e8, e29, e30, e31, e4, e9, e10, d7, vlen, slen, vc.1, vc.2, sc.1, sc.2, d8, XOp.kind, reduceCtorEq, V.bool, V.i64, aUn, aBox, aLoad, aArrAddr, aFold, aEqV, chkAdd, effAdd, AOp.kind, chkAll, chkSee, zP.down, zQ.down, zR.down, simprocAttr]
              refine ⟨_, rfl, ?_, ?_, ?_, ?_, ?_, ?_, ?_, ?_, ?_, ?_⟩
              all_goals ((try simp only [stc, mc, hae, List.cons_append, List.nil_append]); simp -implicitDefEqProofs (disch := first | exact nbf rfl | exact nbt rfl | (simp only [ne_eq, reduceCtorEq, not_false_eq_true]; done) | omega | (simp -implicitDefEqProofs only [zN.down] <;> omega) | fail) only [e3, e6, e8, e29, e30, e31, e4, e9, e10, XOp.kind, reduceCtorEq, V.bool, V.i64, aUn, aBox, aLoad, aArrAddr, aFold, aEqV, chkAdd, effAdd, AOp.kind, chkAll, chkSee, zP.down, zQ.down, zR.down, simprocAttr]; done)
          clear e3 e4 e6 e8 e9 e10 e29 e30 e31
          rintro _ ⟨ρ, rfl, e3, e4, e6, e8, e9, e10, e11, e29, e30, e31⟩
          simp only [stc, mc, hae, List.cons_append, List.nil_append] at e8 e9
          simp -implicitDefEqProofs (disch := first | exact nbf rfl | exact nbt rfl | (simp only [ne_eq, reduceCtorEq, not_false_eq_true]; done) | omega | (simp -implicitDefEqProofs only [zN.down] <;> omega) | fail) only [XOp.kind, s_nil, s_cons, s_consG, s_op, s_gtt, s_gff, s_gtf, s_gft, s_region, s_reg, s_seqn, s_seqr, s_seqe, s_skip, s_ret, s_exit, s_cond, s_condt, s_condf, s_block, s_blockn, s_blockr, s_blocke, s_finr, s_finn, Option.map_some, Option.map_none, upd_o, upd_s, ne_eq, reduceCtorEq, not_false_eq_true, List.getElem?_cons_zero, List.getElem?_cons_succ, Option.getD_some, Bool.false_eq_true, if_false, if_true, V.bool, V.i64, List.mapM_cons, List.mapM_nil, Option.bind_eq_bind, Option.bind_some, Option.pure_def, beq_tt, beq_tf, beq_ft, beq_ff, Bool.not_true, Bool.not_false, Nat.succ_ne_zero, List.map_cons, List.map_nil, aUn, BEq.rfl, aBox, aLoad, aArrAddr, aFold, aEqV, c_agg, c_sc, c_str, c_ptr, c_elt, c_vs, c_os, c_mp, c_fn, o_sc, o_str, o_ptr, o_elt, o_vs, o_os, o_mp, o_fn, not_true_eq_false, x_reg, x_rput, p_agg, St.get_bump, St.n_bump, c_ifc, o_ifc, List.all_cons, List.all_nil, Bool.and_true, Bool.and_self, List.drop_succ_cons, List.drop_zero, List.take_succ_cons, List.take_zero, List.length_cons, List.length_nil, Nat.zero_add, Nat.add_zero, Nat.mul_one, List.cons_append, List.nil_append, St.n_push, St.n_put, get_push_eq, get_push_ne, get_put_eq, get_put_ne, w_some, Nat.le_refl, true_and, and_true, and_self, List.append_nil, b_add, b_sub, b_mul, b_quo, b_rem, b_and, b_or, b_xor, b_eql, b_neq, b_lss, b_leq, b_gtr, b_geq, Int.cast_ofNat_Int, Int.toNat_zero, Int.toNat_one, decide_true, decide_false, bne_self_eq_false, d_draw, d_nil, d_e, d_cons, d_consG, d_op, d_gtt, d_gff, d_gtf, d_gft, chkAdd, effAdd, AOp.kind, chkAll, chkSee, Bool.true_and, s_gu, d_gu, zQ.down, zR.down, simprocAttr]
          rw [s_seq]
          refine w_seq ?_
          refine W.mono (Q := fun r => ∃ (ρ' : Env), r = ((.normal : Ex), ρ', σ9) ∧ ρ' 3 = .ptr d 0 ∧ ρ' 4 = .ptr g' 0 ∧ ρ' 6 = sv ∧ ρ' 8 = .agg (stc p) ∧ ρ' 9 = .agg (mc a2) ∧ ρ' 10 = .sc (.int .i64 e2) ∧ ρ' 11 = v ∧ ρ' 29 = x ∧ ρ' 30 = .sc (.int .i64 l.length) ∧ ρ' 31 = .sc (.int .i64 i)) ?_ ?_
          · rcases ht.l with h1 | ⟨h1, hk9, _⟩
            · have d7 : decide ((L2.length : Int) > (L.length : Int)) = false := by rw [h1]; simp
              simp -implicitDefEqProofs (disch := first | exact nbf rfl | exact nbt rfl | (simp only [ne_eq, reduceCtorEq, not_false_eq_true]; done) | omega | (simp -implicitDefEqProofs only [zN.down] <;> omega) | fail) only [e3, e6, e8, e29, e30, e31, e4, e9, e10, e11, d7, vlen, slen, vc.1, vc.2, sc.1, sc.2, XOp.kind, reduceCtorEq, V.bool, V.i64, aUn, aBox, aLoad, aArrAddr, aFold, aEqV, chkAdd, effAdd, AOp.kind, chkAll, chkSee, zP.down, zQ.down, zR.down, simprocAttr]
              refine ⟨_, rfl, ?_, ?_, ?_, ?_, ?_, ?_, ?_, ?_, ?_, ?_⟩
              all_goals ((try simp only [stc, mc, hae, List.cons_append, List.nil_append]); simp -implicitDefEqProofs (disch := first | exact nbf rfl | exact nbt rfl | (simp only [ne_eq, reduceCtorEq, not_false_eq_true]; done) | omega | (simp -implicitDefEqProofs only [zN.down] <;> omega) | fail) only [e3, e6, e8, e29, e30, e31, e4, e9, e10, e11, XOp.kind, reduceCtorEq, V.bool, V.i64, aUn, aBox, aLoad, aArrAddr, aFold, aEqV, chkAdd, effAdd, AOp.kind, chkAll, chkSee, zP.down, zQ.down, zR.down, simprocAttr]; done)
            · have hlt : L.length < L2.length := by rw [h1]; simp
              have d7 : decide ((L2.length : Int) > (L.length : Int)) = true := by simp only [decide_eq_true_eq]; omega
              have dk9 : (p.m.k != 9) = false := by simp [hk9]
              obtain ⟨b1, _, _⟩ := tkc_at hv hlt
              obtain ⟨b3, b4, b12, bl⟩ := tkc_cells hv hlt
              have hel : L2[L.length] = tkm p.m := by simp [h1]
              rw [hel] at b3 b4 b12
              simp only [tkm] at b3 b4 b12
              have eqr : ∀ a : Int, (a == a) = true := fun a => by simp
              simp -implicitDefEqProofs (disch := first | exact nbf rfl | exact nbt rfl | (simp only [ne_eq, reduceCtorEq, not_false_eq_true]; done) | omega | (simp -implicitDefEqProofs only [zN.down] <;> omega) | fail) only [e3, e6, e8, e29, e30, e31, e4, e9, e10, e11, d7, dk9, vlen, slen, vsize, vc.1, vc.2, sc.1, sc.2, b1, b3, b4, b12, bl, fa, bne, eq2, eqr, XOp.kind, reduceCtorEq, V.bool, V.i64, aUn, aBox, aLoad, aArrAddr, aFold, chkAdd, effAdd, AOp.kind, chkAll, chkSee, zP.down, zQ.down, zR.down, simprocAttr]
              refine ⟨_, rfl, ?_, ?_, ?_, ?_, ?_, ?_, ?_, ?_, ?_, ?_⟩
              all_goals ((try simp only [stc, mc, hae, List.cons_append, List.nil_append]); simp -implicitDefEqProofs (disch := first | exact nbf rfl | exact nbt rfl | (simp only [ne_eq, reduceCtorEq, not_false_eq_true]; done) | omega | (simp -implicitDefEqProofs only [zN.down] <;> omega) | fail) only [e3, e6, e8, e29, e30, e31, e4, e9, e10, e11, XOp.kind, reduceCtorEq, V.bool, V.i64, aUn, aBox, aLoad, aArrAddr, aFold, aEqV, chkAdd, effAdd, AOp.kind, chkAll, chkSee, zP.down, zQ.down, zR.down, simprocAttr]; done)
          clear e3 e4 e6 e8 e9 e10 e11 e29 e30 e31
          rintro _ ⟨ρ, rfl, e3, e4, e6, e8, e9, e10, e11, e29, e30, e31⟩
          simp -implicitDefEqProofs (disch := first | exact nbf rfl | exact nbt rfl | (simp only [ne_eq, reduceCtorEq, not_false_eq_true]; done) | omega | (simp -implicitDefEqProofs only [zN.down] <;> omega) | fail) only [e11, vlen, vc.1, vc.2, XOp.kind, reduceCtorEq, V.bool, V.i64, aUn, aBox, aLoad, aArrAddr, aFold, aEqV, chkAdd, effAdd, AOp.kind, chkAll, chkSee, zP.down, zQ.down, zR.down, simprocAttr]
          repeat (first | refine w_fin ?_ | refine w_seq ?_ | refine w_block ?_ | refine w_reg ?_ | refine w_op ?_ | refine w_dop ?_)
          refine W.mono (Q := fun r => ∃ (ρ' : Env) (σ' : St), r = ((.exit 2 : Ex), ρ', σ') ∧ Kept noX σ9 σ' ∧ ρ' 3 = .ptr d 0 ∧ ρ' 4 = .ptr g' 0 ∧ ρ' 6 = sv ∧ ρ' 8 = .agg (stc p) ∧ ρ' 9 = .agg (mc a2) ∧ ρ' 10 = .sc (.int .i64 e2) ∧ ρ' 11 = v ∧ ρ' 29 = x ∧ ρ' 30 = .sc (.int .i64 l.length) ∧ ρ' 31 = .sc (.int .i64 i) ∧ ρ' 13 = .sc (.int .i64 ((tnx L2 p.m.talk).n - 1)) ∧ ρ' 14 = .agg [.sc (.int .i64 (tnx L2 p.m.talk).f), .sc (.int .i64 (tnx L2 p.m.talk).e)]) ?_ ?_
          · refine w_loop (fun m' ρ' σ' => ∃ j : Nat, m' = L2.length - j ∧ j ≤ L2.length ∧ Kept noX σ9 σ' ∧ ρ' 3 = .ptr d 0 ∧ ρ' 4 = .ptr g' 0 ∧ ρ' 6 = sv ∧ ρ' 8 = .agg (stc p) ∧ ρ' 9 = .agg (mc a2) ∧ ρ' 10 = .sc (.int .i64 e2) ∧ ρ' 11 = v ∧ ρ' 29 = x ∧ ρ' 30 = .sc (.int .i64 l.length) ∧ ρ' 31 = .sc (.int .i64 i) ∧ ρ' 13 = .sc (.int .i64 ((tnx (L2.take j) p.m.talk).n - 1)) ∧ ρ' 14 = .agg [.sc (.int .i64 (tnx (L2.take j) p.m.talk).f), .sc (.int .i64 (tnx (L2.take j) p.m.talk).e)] ∧ ρ' 164 = v ∧ ρ' 165 = .sc (.int .i64 L2.length) ∧ ρ' 166 = .sc (.int .i64 j)) L2.length (by omega) ?_ ?_
            · refine ⟨0, rfl, Nat.zero_le _, by ((repeat (first | refine Kept.push ?_ _ | refine Kept.bump ?_ | refine Kept.put ?_ (.inr (by omega)) (by first | omega | (simp only [St.n_put, St.n_push]; omega)) _)); first | exact Kept.refl _ _ | assumption), ?_, ?_, ?_, ?_, ?_, ?_, ?_, ?_, ?_, ?_, ?_, ?_, ?_, ?_, ?_⟩
              all_goals first | (simp -implicitDefEqProofs (disch := first | exact nbf rfl | exact nbt rfl | (simp only [ne_eq, reduceCtorEq, not_false_eq_true]; done) | omega | (simp -implicitDefEqProofs only [zN.down] <;> omega) | fail) only [e3, e4, e6, e8, e9, e10, e11, e29, e30, e31, XOp.kind, reduceCtorEq, V.bool, V.i64, aUn, aBox, aLoad, aArrAddr, aFold, aEqV, chkAdd, effAdd, AOp.kind, chkAll, chkSee, zP.down, zQ.down, zR.down, simprocAttr]; done) | (simp -implicitDefEqProofs (disch := first | exact nbf rfl | exact nbt rfl | (simp only [ne_eq, reduceCtorEq, not_false_eq_true]; done) | omega | (simp -implicitDefEqProofs only [zN.down] <;> omega) | fail) only [tnx, List.foldl_nil, XOp.kind, reduceCtorEq, V.bool, V.i64, aUn, aBox, aLoad, aArrAddr, aFold, aEqV, chkAdd, effAdd, AOp.kind, chkAll, chkSee, zP.down, zQ.down, zR.down, simprocAttr]; done) | (simp -implicitDefEqProofs (disch := first | exact nbf rfl | exact nbt rfl | (simp only [ne_eq, reduceCtorEq, not_false_eq_true]; done) | omega | (simp -implicitDefEqProofs only [zN.down] <;> omega) | fail) only [XOp.kind, reduceCtorEq, V.bool, V.i64, aUn, aBox, aLoad, aArrAddr, aFold, aEqV, chkAdd, effAdd, AOp.kind, chkAll, chkSee, zP.down, zQ.down, zR.down, simprocAttr]; rfl)
            · rintro m' ρ' σ' ⟨j, hm', hj, kp, f3, f4, f6, f8, f9, f10, f11, f29, f30, f31, f13, f14, f164, f165, f166⟩
              by_cases hjl : j < L2.length
              · have c9 : decide ((j : Int) < (L2.length : Int)) = true := by simpa using hjl
                obtain ⟨b1, b2, b3⟩ := tkc_at hv hjl
                simp only [tkc] at b3
                have hst := tnx_snoc (L2.take j) p.m.talk L2[j]
                have htk : L2.take j ++ [L2[j]] = L2.take (j + 1) := by rw [List.take_add_one, List.getElem?_eq_getElem hjl]; rfl
                rw [htk] at hst
                obtain ⟨z1, z2, z3⟩ := tmay_0 (hc2 j hjl)
                obtain ⟨n1, n2⟩ := chain_n hc2 p.m.talk j hj
                unfold tst at hst
                generalize L2[j] = q at *
                have w5 : IntKind.i64.wrap ((j : Int) + 1) = ((j + 1 : Nat) : Int) := wrap64 (by omega) (by omega)
                have f8' := f8
                simp only [stc, mc, List.cons_append, List.nil_append] at f8'
                by_cases hq : q.talk = p.m.talk
                · have c10 := beq_iff_eq.2 hq
                  rw [if_pos hq] at hst
                  rw [hq] at z2 z3
                  have w6 : IntKind.i64.wrap ((tnx (L2.take j) p.m.talk).n - 1 + 1) = q.seq := by rw [wrap64 (by omega) (by omega), z3]; omega
                  have c11 : (q.seq != q.seq) = false := by simp
                  have ha := fun σ => hab σ (tnx (L2.take j) p.m.talk) q
                  rw [decide_eq_false z2] at ha
                  simp -implicitDefEqProofs (disch := first | exact nbf rfl | exact nbt rfl | (simp only [ne_eq, reduceCtorEq, not_false_eq_true]; done) | omega | (simp -implicitDefEqProofs only [zN.down] <;> omega) | fail) only [c9, f8', f13, f14, f164, f165, f166, b1, b2, b3, vsize, c10, w6, c11, ha, w5, f3, f4, f6, f9, f10, f11, f29, f30, f31, XOp.kind, reduceCtorEq, V.bool, V.i64, aUn, aBox, aLoad, aArrAddr, aFold, aEqV, chkAdd, effAdd, AOp.kind, chkAll, chkSee, zP.down, zQ.down, zR.down, simprocAttr]
                  refine ⟨L2.length - (j + 1), by omega, j + 1, rfl, hjl, by ((repeat (first | refine Kept.push ?_ _ | refine Kept.bump ?_ | refine Kept.put ?_ (.inr (by omega)) (by first | omega | (simp only [St.n_put, St.n_push]; omega)) _)); first | exact Kept.refl _ _ | assumption), ?_, by rw [hst]; dsimp only; rw [Int.add_sub_cancel], by rw [hst], rfl⟩
                  simp only [stc, mc, List.cons_append, List.nil_append]
                · have c10 := beq_eq_false_iff_ne.2 hq
                  rw [if_neg hq] at hst
                  simp -implicitDefEqProofs (disch := first | exact nbf rfl | exact nbt rfl | (simp only [ne_eq, reduceCtorEq, not_false_eq_true]; done) | omega | (simp -implicitDefEqProofs only [zN.down] <;> omega) | fail) only [c9, f8', f13, f14, f164, f165, f166, b1, b2, b3, vsize, c10, w5, f3, f4, f6, f9, f10, f11, f29, f30, f31, XOp.kind, reduceCtorEq, V.bool, V.i64, aUn, aBox, aLoad, aArrAddr, aFold, aEqV, chkAdd, effAdd, AOp.kind, chkAll, chkSee, zP.down, zQ.down, zR.down, simprocAttr]
                  refine ⟨L2.length - (j + 1), by omega, j + 1, rfl, hjl, by ((repeat (first | refine Kept.push ?_ _ | refine Kept.bump ?_ | refine Kept.put ?_ (.inr (by omega)) (by first | omega | (simp only [St.n_put, St.n_push]; omega)) _)); first | exact Kept.refl _ _ | assumption), ?_, by rw [hst], by rw [hst], rfl⟩
                  simp only [stc, mc, List.cons_append, List.nil_append]
              · have c9 : decide ((j : Int) < (L2.length : Int)) = false := by simpa using hjl
                have : j = L2.length := by omega
                subst this
                rw [List.take_length] at f13 f14
                simp -implicitDefEqProofs (disch := first | exact nbf rfl | exact nbt rfl | (simp only [ne_eq, reduceCtorEq, not_false_eq_true]; done) | omega | (simp -implicitDefEqProofs only [zN.down] <;> omega) | fail) only [c9, f165, f166, XOp.kind, reduceCtorEq, V.bool, V.i64, aUn, aBox, aLoad, aArrAddr, aFold, aEqV, chkAdd, effAdd, AOp.kind, chkAll, chkSee, zP.down, zQ.down, zR.down, simprocAttr]
                refine ⟨_, _, rfl, kp, ?_, ?_, ?_, ?_, ?_, ?_, ?_, ?_, ?_, ?_, ?_, ?_⟩
                all_goals (simp -implicitDefEqProofs (disch := first | exact nbf rfl | exact nbt rfl | (simp only [ne_eq, reduceCtorEq, not_false_eq_true]; done) | omega | (simp -implicitDefEqProofs only [zN.down] <;> omega) | fail) only [f3, f4, f6, f8, f9, f10, f11, f29, f30, f31, f13, f14, XOp.kind, reduceCtorEq, V.bool, V.i64, aUn, aBox, aLoad, aArrAddr, aFold, aEqV, chkAdd, effAdd, AOp.kind, chkAll, chkSee, zP.down, zQ.down, zR.down, simprocAttr]; done)
          · clear e3 e4 e6 e8 e9 e10 e11 e29 e30 e31
            rintro _ ⟨ρ, σ', rfl, kp, e3, e4, e6, e8, e9, e10, e11, e29, e30, e31, e13, e14⟩
            simp only [stc, mc, hae, List.cons_append, List.nil_append] at e8 e9
            have fin : ∀ σf, Kept noX σ' σf → ∃ m', m' < m ∧ ∃ (i g jb : Nat) (M : DM) (sv : V) (L : List Tk), True := fun _ _ => ⟨0, by omega, i, g', jb', M2, v, L2, trivial⟩
            have ha := fun σ => hab σ (tnx L2 p.m.talk) (tkm p.m)
            simp only [tkm] at ha
            by_cases x0 : e2 = 0
            rotate_left
            · have y0 : (e2 == 0) = false := by simpa using x0
              simp -implicitDefEqProofs (disch := first | exact nbf rfl | exact nbt rfl | (simp only [ne_eq, reduceCtorEq, not_false_eq_true]; done) | omega | (simp -implicitDefEqProofs only [zN.down] <;> omega) | fail) only [e3, e4, e6, e8, e9, e10, e11, e29, e30, e31, e13, e14, y0, vc.1, vc.2, w3, XOp.kind, reduceCtorEq, V.bool, V.i64, aUn, aBox, aLoad, aArrAddr, aFold, aEqV, chkAdd, effAdd, AOp.kind, chkAll, chkSee, zP.down, zQ.down, zR.down, simprocAttr]
              exact ⟨l.length - (i + 1), by omega, i + 1, g', jb', M2, v, L2, rfl, hl, hd9.kept kp (fun h => h), hM.more (by omega), hg9.kept0 kp, hf2, hc2, by omega, hne2, hv, rfl, rfl, rfl⟩
            have y0 : (e2 == 0) = true := by simpa using x0
            by_cases x1 : a2.k = 0
            · have y1 : (a2.k != 0) = false := by simp [x1]
              simp -implicitDefEqProofs (disch := first | exact nbf rfl | exact nbt rfl | (simp only [ne_eq, reduceCtorEq, not_false_eq_true]; done) | omega | (simp -implicitDefEqProofs only [zN.down] <;> omega) | fail) only [e3, e4, e6, e8, e9, e10, e11, e29, e30, e31, e13, e14, y0, y1, vc.1, vc.2, w3, XOp.kind, reduceCtorEq, V.bool, V.i64, aUn, aBox, aLoad, aArrAddr, aFold, aEqV, chkAdd, effAdd, AOp.kind, chkAll, chkSee, zP.down, zQ.down, zR.down, simprocAttr]
              exact ⟨l.length - (i + 1), by omega, i + 1, g', jb', M2, v, L2, rfl, hl, hd9.kept kp (fun h => h), hM.more (by omega), hg9.kept0 kp, hf2, hc2, by omega, hne2, hv, rfl, rfl, rfl⟩
            have y1 : (a2.k != 0) = true := by simp [x1]
            obtain ⟨x2, x3⟩ := ht.seq x0 x1
            have y2 : (a2.seq != (tnx L2 p.m.talk).n - 1) = false := by simp [x2]
            by_cases x4 : a2.er = 0
            · have y4 : (a2.er == 0) = true := by simp [x4]
              have hnt := x3 x4
              have ha2 : ∀ σ, cy noYl 14 [.agg [.sc (.int .i64 (tnx L2 p.m.talk).f), .sc (.int .i64 (tnx L2 p.m.talk).e)], .agg [.sc (.int .i64 p.m.term), .sc (.int .i64 p.m.ep)]] σ = some (.sc (.bool false), σ.bump.bump) := fun σ => by
                have := hab σ (tnx L2 p.m.talk) (tkm p.m)
                rw [decide_eq_false hnt] at this
                exact this
              simp -implicitDefEqProofs (disch := first | exact nbf rfl | exact nbt rfl | (simp only [ne_eq, reduceCtorEq, not_false_eq_true]; done) | omega | (simp -implicitDefEqProofs only [zN.down] <;> omega) | fail) only [e3, e4, e6, e8, e9, e10, e11, e29, e30, e31, e13, e14, y0, y1, y2, y4, ha2, vc.1, vc.2, w3, XOp.kind, reduceCtorEq, V.bool, V.i64, aUn, aBox, aLoad, aArrAddr, aFold, aEqV, chkAdd, effAdd, AOp.kind, chkAll, chkSee, zP.down, zQ.down, zR.down, simprocAttr]
              have kp2 := kp.bump.bump
              exact ⟨l.length - (i + 1), by omega, i + 1, g', jb', M2, v, L2, rfl, hl, hd9.kept kp2 (fun h => h), hM.more (by omega), hg9.kept0 kp2, hf2, hc2, by omega, hne2, hv, rfl, rfl, rfl⟩
            · have y4 : (a2.er == 0) = false := by simp [x4]
              simp -implicitDefEqProofs (disch := first | exact nbf rfl | exact nbt rfl | (simp only [ne_eq, reduceCtorEq, not_false_eq_true]; done) | omega | (simp -implicitDefEqProofs only [zN.down] <;> omega) | fail) only [e3, e4, e6, e8, e9, e10, e11, e29, e30, e31, e13, e14, y0, y1, y2, y4, vc.1, vc.2, w3, XOp.kind, reduceCtorEq, V.bool, V.i64, aUn, aBox, aLoad, aArrAddr, aFold, aEqV, chkAdd, effAdd, AOp.kind, chkAll, chkSee, zP.down, zQ.down, zR.down, simprocAttr]
              exact ⟨l.length - (i + 1), by omega, i + 1, g', jb', M2, v, L2, rfl, hl, hd9.kept kp (fun h => h), hM.more (by omega), hg9.kept0 kp, hf2, hc2, by omega, hne2, hv, rfl, rfl, rfl⟩
      · have d1 : decide ((i : Int) < (l.length : Int)) = false := by simpa using hl
        simp -implicitDefEqProofs (disch := first | exact nbf rfl | exact nbt rfl | (simp only [ne_eq, reduceCtorEq, not_false_eq_true]; done) | omega | (simp -implicitDefEqProofs only [zN.down] <;> omega) | fail) only [d1, e30, e31, XOp.kind, reduceCtorEq, V.bool, V.i64, aUn, aBox, aLoad, aArrAddr, aFold, aEqV, chkAdd, effAdd, AOp.kind, chkAll, chkSee, zP.down, zQ.down, zR.down, simprocAttr]
        exact ⟨_, _, rfl⟩
  · rintro _ ⟨ρ, σ, rfl⟩
    simp -implicitDefEqProofs (disch := first | exact nbf rfl | exact nbt rfl | (simp only [ne_eq, reduceCtorEq, not_false_eq_true]; done) | omega | (simp -implicitDefEqProofs only [zN.down] <;> omega) | fail) only [XOp.kind, reduceCtorEq, V.bool, V.i64, aUn, aBox, aLoad, aArrAddr, aFold, aEqV, chkAdd, effAdd, AOp.kind, chkAll, chkSee, zP.down, zQ.down, zR.down, simprocAttr]
theorem fences_good (x : V) (w : ArgA (.sl stT) x) : good (callN Tab.tbl 9223372036854776000 3 [x] St.empty) = true := by
  obtain ⟨l, h⟩ := scr_of w
  obtain ⟨σ1, hw⟩ := works_ok
  exact call_turned Tab.turned (w_good (fences_run 9223372036854775990 St.empty x l h (by decide) σ1 hw))
end Go.Proofs.Ytehdjkikcfeiaaa.jn
