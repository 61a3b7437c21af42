/- Rings of bytes: the program's. Gateways: what is seen, a question's answer (plain). Gateways: rights, what is asked. Gateways: a question answered. Gateways: a question asked. -/
import Derived.Test.YtehdjkikcfeiaaaGreatFrO
import Derived.Test.YtehdjkikcfeiaaaGreatJourP
namespace Go.Proofs.YtehdjkikcfeiaaaGreat.rg
open Go.Ab fr
set_option maxRecDepth 100000
set_option maxHeartbeats 8000000
set_option linter.unusedSimpArgs false
set_option linter.unusedVariables false
structure PC (cs : List V) (T : List UInt8) (e : Nat) : Prop where
 len : cs.length = 1026
 lim : cs[1024]? = some (.sc (.int .i64 1024))
 en : cs[1025]? = some (.sc (.int .i64 e))
 el : ∀ i b, i < e → T[i]? = some b → T.length ≤ i + 1024 → cs[i % 1024]? = some (byteV b)
def RG (σ : St) (o : Nat) (s : List UInt8) : Prop := ∃ cs, σ.get o = some (.cells cs) ∧ PC cs s s.length
theorem RG.kept {X : Nat → Prop} {σ σ' : St} {o : Nat} {s : List UInt8} (h : RG σ o s) (k : Kept X σ σ') (hx : ¬ X o) : RG σ' o s := by
 obtain ⟨cs, g, p⟩ := h
 exact ⟨cs, k.get _ _ hx g, p⟩
theorem RG.lt {σ : St} {o : Nat} {s : List UInt8} (h : RG σ o s) : o < σ.n := by
 obtain ⟨cs, g, _⟩ := h
 exact St.get_lt g
theorem PC.more {cs : List V} {s : List UInt8} (h : PC cs s s.length) (x : List UInt8) : PC cs (s ++ x) s.length :=
 ⟨h.len, h.lim, h.en, fun i b hi hb hl => h.el i b hi (by rwa [List.getElem?_append_left hi] at hb) (by simp at hl; omega)⟩
theorem PC.skip {cs : List V} {T : List UInt8} {e e' : Nat} (h : PC cs T e) (he : T.length = e' + 1024) : PC (cs.set 1025 (.sc (.int .i64 e'))) T e' :=
 ⟨by simp [h.len], by rw [List.getElem?_set_ne (by omega)]; exact h.lim, by simp [h.len], fun i b hi hb hl => by omega⟩
theorem PC.write {cs : List V} {T : List UInt8} {e n : Nat} (h : PC cs T e) (hn : e + n ≤ T.length) (hm : e % 1024 + n ≤ 1024) : PC ((splice cs (e % 1024) (((T.drop e).take n).map byteV)).set 1025 (.sc (.int .i64 ((e + n : Nat) : Int)))) T (e + n) := by
 have hl : (((T.drop e).take n).map byteV).length = n := by simp; omega
 have hc := h.len
 have hs := splice_len (cs := cs) (ds := ((T.drop e).take n).map byteV) (k := e % 1024) (by rw [hl]; omega)
 have hat := fun i => splice_at (cs := cs) (ds := ((T.drop e).take n).map byteV) (k := e % 1024) (by rw [hl]; omega) i
 rw [hl] at hat
 refine ⟨by rw [List.length_set, hs, hc], ?_, ?_, fun i b hi hb hlen => ?_⟩
 · rw [List.getElem?_set_ne (by omega), hat, if_neg (by omega)]
   exact h.lim
 · rw [List.getElem?_set_self (by rw [hs, hc]; omega)]
 · have hm1 : i % 1024 < 1024 := Nat.mod_lt _ (by decide)
   rw [List.getElem?_set_ne (by omega), hat]
   by_cases hie : i < e
   · rw [if_neg ?_]
     · exact h.el i b hie hb hlen
     · intro hq
       omega
   · have e1 : i % 1024 = e % 1024 + (i - e) := by omega
     rw [if_pos (by omega), e1]
     have e2 : e % 1024 + (i - e) - e % 1024 = i - e := by omega
     rw [e2, List.getElem?_map, List.getElem?_take, if_pos (by omega), List.getElem?_drop, show e + (i - e) = i by omega, hb]
     rfl
theorem maxf (a b : Int) : aFold true (.sc (.int .i64 a)) [.sc (.int .i64 b)] = some (.sc (.int .i64 (max a b))) := by
 simp only [aFold, aMinMax, Option.bind_some]
 by_cases h : a < b
 · rw [show max a b = b by omega]; simp [h]; try omega
 · rw [show max a b = a by omega]; simp; omega
theorem minf (a b : Int) : aFold false (.sc (.int .i64 a)) [.sc (.int .i64 b)] = some (.sc (.int .i64 (min a b))) := by
 simp only [aFold, aMinMax, Option.bind_some]
 by_cases h : b < a
 · rw [show min a b = b by omega]; simp [h]; try omega
 · rw [show min a b = a by omega]; simp; omega
theorem end_ok (k : Nat) (ys : YlF) (σ : St) (o : Nat) (s : List UInt8) (h : RG σ o s) : callY Tab.tb (k + 1) ys 53 [.ptr o 0] σ = some (.sc (.int .i64 s.length), σ) := by
 rw [s_call (af := Tab.b53) rfl (Nat.le_of_ble_eq_true rfl)]
 generalize callY Tab.tb k = cy
 have hn : aEqV σ .ptr (.ptr o 0) (.sc .nilP) = some false := rfl
 obtain ⟨cs, g, p⟩ := h
 have c1 := p.en
 simp -implicitDefEqProofs (disch := first | exact nbf rfl | exact nbt rfl | (simp only [zN.down, reduceCtorEq] <;> omega) | omega) only [Tab.b53, hn, g, c1, XOp.kind, aArrAddr, AOp.kind, zP.down, zQ.down, zR.down, zS.down, simprocAttr]
theorem first_ok (k : Nat) (ys : YlF) (σ : St) (o : Nat) (s : List UInt8) (h : RG σ o s) (hs : s.length ≤ 1099511627776) : callY Tab.tb (k + 1) ys 83 [.ptr o 0] σ = some (.sc (.int .i64 ((s.length - 1024 : Nat) : Int)), σ) := by
 rw [s_call (af := Tab.b83) rfl (Nat.le_of_ble_eq_true rfl)]
 generalize callY Tab.tb k = cy
 have hn : aEqV σ .ptr (.ptr o 0) (.sc .nilP) = some false := rfl
 obtain ⟨cs, g, p⟩ := h
 have c1 := p.en
 have c2 := p.lim
 have w1 : IntKind.i64.wrap ((s.length : Int) - 1024) = (s.length : Int) - 1024 := wrap64 (by omega) (by omega)
 have mm := maxf ((s.length : Int) - 1024) 0
 rw [show max ((s.length : Int) - 1024) 0 = ((s.length - 1024 : Nat) : Int) by omega] at mm
 simp -implicitDefEqProofs (disch := first | exact nbf rfl | exact nbt rfl | (simp only [zN.down, reduceCtorEq] <;> omega) | omega) only [Tab.b83, hn, g, c1, c2, w1, mm, XOp.kind, aArrAddr, AOp.kind, zP.down, zQ.down, zR.down, zS.down, simprocAttr]
theorem z8_len : (Tab.z8 1024).length = 1024 := List.length_replicate
theorem z8_one : (Tab.z8 1024).all V.oneCell = true := by unfold Tab.z8; simp [V.oneCell]
theorem rnew_ok (k : Nat) (ys : YlF) (σ : St) : W (callY Tab.tb (k + 1) ys 13 [.sc (.int .i64 1024)] σ) fun r => r.1 = .tup [.ptr σ.n 0, .sc (.int .i64 0)] ∧ RG r.2 σ.n [] ∧ Kept noX σ r.2 ∧ σ.n < r.2.n := by
 rw [s_call (af := Tab.b13) rfl (Nat.le_of_ble_eq_true rfl)]
 generalize callY Tab.tb k = cy
 have s1 : splice (Tab.z8 1024 ++ [.sc (.int .i64 0), .sc (.int .i64 0)]) 1024 [.sc (.int .i64 1024)] = Tab.z8 1024 ++ [.sc (.int .i64 1024), .sc (.int .i64 0)] := by
  unfold splice
  rw [List.take_append_of_le_length (by rw [z8_len]; omega), List.take_of_length_le (by rw [z8_len]; omega), List.drop_append, List.drop_of_length_le (by rw [z8_len]; simp), z8_len]
  simp
 have le : (1024 + 1 ≤ (Tab.z8 1024 ++ [V.sc (.int .i64 0), .sc (.int .i64 0)]).length) = True := by simp [z8_len]
 have bx : ∀ σ, aBox σ (.agg (Tab.z8 1024 ++ [.sc (.int .i64 1024), .sc (.int .i64 0)])) = some (.ptr σ.n 0, σ.push (.cells (Tab.z8 1024 ++ [.sc (.int .i64 1024), .sc (.int .i64 0)]))) := fun σ => boxed_ok (by show List.all (Tab.z8 1024 ++ [V.sc (.int .i64 1024), .sc (.int .i64 0)]) V.oneCell = true; rw [List.all_append, z8_one]; rfl)
 simp -implicitDefEqProofs (disch := first | exact nbf rfl | exact nbt rfl | (simp only [zN.down, reduceCtorEq] <;> omega) | omega) only [Tab.b13, s1, le, bx, XOp.kind, V.bool, V.i64, aUn, aLoad, aFold, chkAdd, effAdd, AOp.kind, chkAll, chkSee, zP.down, zR.down, zT.down, AOper.o, AOper.p, simprocAttr]
 refine ⟨⟨_, get_push_self, ⟨by simp [z8_len], ?_, ?_, fun i b hi => by simp at hi⟩⟩, (Kept.refl _ _).push _, by simp⟩
 · rw [List.getElem?_append_right (by rw [z8_len]; omega), z8_len]; rfl
 · rw [List.getElem?_append_right (by rw [z8_len]; omega), z8_len]; rfl
theorem sl_from {x : List UInt8} {i : Nat} (h : i ≤ x.length) : aSlice (.str x) (some (.sc (.int .i64 (i : Int)))) none none = some (.str (x.drop i)) := by
 have q : (0 : Int) ≤ i ∧ (i : Int) ≤ x.length := by omega
 simp only [aSlice, aBounds, aBnd, Option.bind_some, q, and_self, if_true, Option.map_some, Int.toNat_natCast]
 rw [List.take_of_length_le (by simp)]
 rfl
theorem bytes1 (l : List UInt8) : (l.map byteV).all V.oneCell = true := by simp [byteV, V.oneCell]
theorem sa_ok (o m : Nat) (h : m < 1024) (σ : St) : XOp.run σ (.sliceArr 1024 1 true true) [.ptr o 0, .sc (.int .i64 (m : Int)), .sc (.int .i64 1024)] = some (.os o m 1 (1024 - m) (some (1024 - m)), σ) := by
 have q1 : (0 : Int) ≤ (m : Int) ∧ (m : Int) ≤ 1024 := by omega
 have q2 : ¬ 1024 = m := by omega
 simp [XOp.run, aSliceArr, aBounds, aBnd, q1, q2]
 omega
theorem put_ok (k : Nat) (ys : YlF) (σ : St) (o : Nat) (s x : List UInt8) (h : RG σ o s) (hs : s.length + x.length ≤ 1099511627776) (hk : x.length + 10 ≤ k) :
  W (callY Tab.tb (k + 1) ys 14 [.ptr o 0, .str x] σ) fun r => RG r.2 o (s ++ x) ∧ Kept (· = o) σ r.2 := by
 rw [s_call (af := Tab.b14) rfl (Nat.le_of_ble_eq_true rfl)]
 generalize callY Tab.tb k = cy
 have hn : aEqV σ .ptr (.ptr o 0) (.sc .nilP) = some false := rfl
 have hlt := h.lt
 obtain ⟨cs, g, p⟩ := h
 have c1 := p.en
 have c2 := p.lim
 have hcl := p.len
 have pm := p.more x
 have w1 : IntKind.i64.wrap ((x.length : Int) - 1024) = (x.length : Int) - 1024 := wrap64 (by omega) (by omega)
 have le : (1025 + 1 ≤ cs.length) = True := by simp only [eq_iff_iff, iff_true]; omega
 simp -implicitDefEqProofs (disch := first | exact nbf rfl | exact nbt rfl | (simp only [zN.down, reduceCtorEq] <;> omega) | omega) only [Tab.b14, XOp.kind, s_nil, s_cons, s_consG, s_op, s_gtt, s_gff, s_gtf, s_gft, s_region, s_reg, s_seqn, s_seqr, s_seqe, s_skip, s_ret, s_exit, s_cond, s_condt, s_condf, s_block, s_blockn, s_blockr, s_blocke, s_finr, s_finn, Option.map_some, Option.map_none, upd_o, upd_s, ne_eq, not_false_eq_true, List.getElem?_cons_zero, List.getElem?_cons_succ, Option.getD_some, Bool.false_eq_true, if_false, if_true, List.mapM_cons, List.mapM_nil, Option.bind_eq_bind, Option.bind_some, Option.pure_def, beq_tt, beq_tf, beq_ft, beq_ff, Bool.not_true, Bool.not_false, Nat.succ_ne_zero, List.map_cons, List.map_nil, BEq.rfl, c_agg, c_sc, c_str, c_ptr, c_elt, c_vs, c_os, c_mp, c_fn, o_sc, o_str, o_ptr, o_elt, o_vs, o_os, o_mp, o_fn, not_true_eq_false, x_reg, x_rput, p_agg, St.get_bump, St.n_bump, c_ifc, o_ifc, List.all_cons, List.all_nil, Bool.and_true, Bool.and_self, List.drop_succ_cons, List.drop_zero, List.take_succ_cons, List.take_zero, List.length_cons, List.length_nil, Nat.zero_add, Nat.add_zero, Nat.mul_one, List.cons_append, List.nil_append, St.n_push, St.n_put, get_push_eq, get_push_ne, get_put_eq, get_put_ne, w_some, Nat.le_refl, true_and, and_true, and_self, List.append_nil, b_add, b_sub, b_mul, b_quo, b_rem, b_and, b_or, b_xor, b_eql, b_neq, b_lss, b_leq, b_gtr, b_geq, Int.cast_ofNat_Int, Int.toNat_zero, Int.toNat_one, decide_true, decide_false, bne_self_eq_false, d_draw, d_nil, d_e, d_cons, d_consG, d_op, d_gtt, d_gff, d_gtf, d_gft, AOp.kind, Bool.true_and, s_gu, d_gu, zQ.down, zR.down, zS.down, zT.down, simprocAttr]
 rw [s_seq]
 refine w_fin (w_seq ?_)
 refine W.mono (Q := fun r => ∃ (ρ : Env), r = ((.normal : Ex), ρ, σ) ∧ ρ 0 = .ptr o 0 ∧ ρ 1 = .str x) ?_ ?_
 · simp -implicitDefEqProofs (disch := first | exact nbf rfl | exact nbt rfl | (simp only [zN.down, reduceCtorEq] <;> omega) | omega) only [hn, XOp.kind, aArrAddr, AOp.kind, zP.down, zQ.down, zR.down, zS.down, simprocAttr]
   exact ⟨_, rfl, by simp -implicitDefEqProofs (disch := first | exact nbf rfl | exact nbt rfl | (simp only [zN.down, reduceCtorEq] <;> omega) | omega) only [XOp.kind, AOp.kind, zU.down, simprocAttr], by simp -implicitDefEqProofs (disch := first | exact nbf rfl | exact nbt rfl | (simp only [zN.down, reduceCtorEq] <;> omega) | omega) only [XOp.kind, AOp.kind, zU.down, simprocAttr]⟩
 rintro _ ⟨ρ, rfl, e0, e1⟩
 simp -implicitDefEqProofs (disch := first | exact nbf rfl | exact nbt rfl | (simp only [zN.down, reduceCtorEq] <;> omega) | omega) only [XOp.kind, s_nil, s_cons, s_consG, s_op, s_gtt, s_gff, s_gtf, s_gft, s_region, s_reg, s_seqn, s_seqr, s_seqe, s_skip, s_ret, s_exit, s_cond, s_condt, s_condf, s_block, s_blockn, s_blockr, s_blocke, s_finr, s_finn, Option.map_some, Option.map_none, upd_o, upd_s, ne_eq, not_false_eq_true, List.getElem?_cons_zero, List.getElem?_cons_succ, Option.getD_some, Bool.false_eq_true, if_false, if_true, List.mapM_cons, List.mapM_nil, Option.bind_eq_bind, Option.bind_some, Option.pure_def, beq_tt, beq_tf, beq_ft, beq_ff, Bool.not_true, Bool.not_false, Nat.succ_ne_zero, List.map_cons, List.map_nil, BEq.rfl, c_agg, c_sc, c_str, c_ptr, c_elt, c_vs, c_os, c_mp, c_fn, o_sc, o_str, o_ptr, o_elt, o_vs, o_os, o_mp, o_fn, not_true_eq_false, x_reg, x_rput, p_agg, St.get_bump, St.n_bump, c_ifc, o_ifc, List.all_cons, List.all_nil, Bool.and_true, Bool.and_self, List.drop_succ_cons, List.drop_zero, List.take_succ_cons, List.take_zero, List.length_cons, List.length_nil, Nat.zero_add, Nat.add_zero, Nat.mul_one, List.cons_append, List.nil_append, St.n_push, St.n_put, get_push_eq, get_push_ne, get_put_eq, get_put_ne, w_some, Nat.le_refl, true_and, and_true, and_self, List.append_nil, b_add, b_sub, b_mul, b_quo, b_rem, b_and, b_or, b_xor, b_eql, b_neq, b_lss, b_leq, b_gtr, b_geq, Int.cast_ofNat_Int, Int.toNat_zero, Int.toNat_one, decide_true, decide_false, bne_self_eq_false, d_draw, d_nil, d_e, d_cons, d_consG, d_op, d_gtt, d_gff, d_gtf, d_gft, AOp.kind, Bool.true_and, s_gu, d_gu, zQ.down, zR.down, zS.down, zT.down, simprocAttr]
 rw [s_seq]
 refine w_seq ?_
 refine W.mono (Q := fun r => ∃ (ρ : Env) (σ' : St) (cs : List V) (e : Nat), r = ((.normal : Ex), ρ, σ') ∧ ρ 0 = .ptr o 0 ∧ ρ 1 = .str ((s ++ x).drop e) ∧ e ≤ (s ++ x).length ∧ (s ++ x).length ≤ e + x.length ∧ σ'.get o = some (.cells cs) ∧ PC cs (s ++ x) e ∧ Kept (· = o) σ σ') ?_ ?_
 · by_cases hg : x.length > 1024
   · have d1 : decide ((x.length : Int) - 1024 > 0) = true := by simp; omega
     have w2 : IntKind.i64.wrap ((s.length : Int) + ((x.length : Int) - 1024)) = ((s.length + (x.length - 1024) : Nat) : Int) := by rw [wrap64 (by omega) (by omega)]; omega
     have sl : aSlice (.str x) (some (.sc (.int .i64 ((x.length : Int) - 1024)))) none none = some (.str (x.drop (x.length - 1024))) := by
      have := sl_from (x := x) (i := x.length - 1024) (by omega)
      rw [show ((x.length - 1024 : Nat) : Int) = (x.length : Int) - 1024 by omega] at this
      exact this
     simp -implicitDefEqProofs (disch := first | exact nbf rfl | exact nbt rfl | (simp only [zN.down, reduceCtorEq] <;> omega) | omega) only [e0, e1, g, c1, c2, hn, w1, d1, w2, sl, le, XOp.kind, aArrAddr, AOp.kind, zP.down, zQ.down, zR.down, zS.down, simprocAttr]
     refine ⟨_, _, _, s.length + (x.length - 1024), rfl, ?_, ?_, by simp only [List.length_append]; omega, by simp only [List.length_append]; omega, get_put_self g, pm.skip (by simp only [List.length_append]; omega), Kept.put (X := (· = o)) (Kept.refl _ _) (.inl rfl) hlt _⟩
     · simp -implicitDefEqProofs (disch := first | exact nbf rfl | exact nbt rfl | (simp only [zN.down, reduceCtorEq] <;> omega) | omega) only [e0, XOp.kind, AOp.kind, zU.down, simprocAttr]
     · simp -implicitDefEqProofs (disch := first | exact nbf rfl | exact nbt rfl | (simp only [zN.down, reduceCtorEq] <;> omega) | omega) only [e0, e1, XOp.kind, AOp.kind, zU.down, simprocAttr]
       rw [List.drop_append, List.drop_of_length_le (l := s) (by omega), List.nil_append]
       congr 2
       omega
   · have d1 : decide ((x.length : Int) - 1024 > 0) = false := by simp; omega
     simp -implicitDefEqProofs (disch := first | exact nbf rfl | exact nbt rfl | (simp only [zN.down, reduceCtorEq] <;> omega) | omega) only [e0, e1, g, c1, c2, hn, w1, d1, XOp.kind, aArrAddr, AOp.kind, zP.down, zQ.down, zR.down, zS.down, simprocAttr]
     refine ⟨_, _, cs, s.length, rfl, ?_, ?_, by simp, by simp, g, pm, Kept.refl _ _⟩
     · simp -implicitDefEqProofs (disch := first | exact nbf rfl | exact nbt rfl | (simp only [zN.down, reduceCtorEq] <;> omega) | omega) only [e0, XOp.kind, AOp.kind, zU.down, simprocAttr]
     · simp -implicitDefEqProofs (disch := first | exact nbf rfl | exact nbt rfl | (simp only [zN.down, reduceCtorEq] <;> omega) | omega) only [e0, e1, XOp.kind, AOp.kind, zU.down, simprocAttr]
       simp
 · clear e0 e1
   rintro _ ⟨ρ, σ1, cs, e, rfl, e0, e1, he1, he2, g1, p1, k1⟩
   generalize hT : s ++ x = T at *
   have hTl : T.length = s.length + x.length := by rw [← hT]; simp
   simp -implicitDefEqProofs (disch := first | exact nbf rfl | exact nbt rfl | (simp only [zN.down, reduceCtorEq] <;> omega) | omega) only [XOp.kind, AOp.kind, zU.down, simprocAttr]
   repeat first | apply w_fin | apply w_seq | apply w_block | apply w_reg | apply w_op | apply w_dop
   refine W.mono (Q := fun r => ∃ (ρ : Env) (σ' : St) (cs : List V), r = ((.exit 0 : Ex), ρ, σ') ∧ σ'.get o = some (.cells cs) ∧ PC cs T T.length ∧ Kept (· = o) σ σ') ?_ ?_
   · refine w_loop (fun m ρ σ' => ∃ (e : Nat) (cs : List V), m = T.length - e ∧ e ≤ T.length ∧ ρ 0 = .ptr o 0 ∧ ρ 1 = .str (T.drop e) ∧ σ'.get o = some (.cells cs) ∧ PC cs T e ∧ Kept (· = o) σ σ') (T.length - e) (by omega) ?_ ?_
     · exact ⟨e, cs, rfl, he1, e0, e1, g1, p1, k1⟩
     · clear e0 e1 g1 p1 k1 he1 he2
       rintro m ρ σ' ⟨e, cs, hm, he, e0, e1, g1, p1, k1⟩
       have hld : (T.drop e).length = T.length - e := by simp
       by_cases hl : e < T.length
       · have d1 : decide (((T.drop e).length : Int) > 0) = true := by simp only [decide_eq_true_eq]; omega
         have c1 := p1.en
         have c2 := p1.lim
         have hcl := p1.len
         have lt1 := St.get_lt g1
         have hm1 : e % 1024 < 1024 := Nat.mod_lt _ (by decide)
         obtain ⟨n, hnn, hn0, hn1, hn2⟩ : ∃ n, Nat.min (T.drop e).length (1024 - e % 1024) = n ∧ 0 < n ∧ e + n ≤ T.length ∧ e % 1024 + n ≤ 1024 := ⟨_, rfl, by have : Nat.min (T.drop e).length (1024 - e % 1024) = min (T.drop e).length (1024 - e % 1024) := rfl; omega, by have : Nat.min (T.drop e).length (1024 - e % 1024) = min (T.drop e).length (1024 - e % 1024) := rfl; omega, by have : Nat.min (T.drop e).length (1024 - e % 1024) = min (T.drop e).length (1024 - e % 1024) := rfl; omega⟩
         have t1 : Int.tmod (e : Int) 1024 = ((e % 1024 : Nat) : Int) := tmod_nat (b := 1024)
         have sa := sa_ok o (e % 1024) hm1
         have hlenb : (((T.drop e).take n).map byteV).length = n := by simp; omega
         have cp : XOp.run σ' (.copy 1) [.os o (e % 1024) 1 (1024 - e % 1024) (some (1024 - e % 1024)), .str (T.drop e)] = some (.sc (.int .i64 (n : Int)), σ'.put o (some (.cells (splice cs (e % 1024) (((T.drop e).take n).map byteV))))) := by
          simp only [XOp.run, aSrc, if_true, Option.bind_some, g1, hnn, Nat.mul_one]
          rw [← List.map_take, if_pos ⟨trivial, by omega, hlenb, bytes1 _⟩]
         have pw := p1.write hn1 hn2
         have hsl := splice_len (cs := cs) (ds := ((T.drop e).take n).map byteV) (k := e % 1024) (by omega)
         have hat := splice_at (cs := cs) (ds := ((T.drop e).take n).map byteV) (k := e % 1024) (by omega) 1025
         rw [hlenb, if_neg (by omega), c1] at hat
         generalize splice cs (e % 1024) (((T.drop e).take n).map byteV) = cs2 at *
         have le2 : (1025 + 1 ≤ cs2.length) = True := by simp only [eq_iff_iff, iff_true]; omega
         have w2 : IntKind.i64.wrap ((e : Int) + (n : Int)) = ((e + n : Nat) : Int) := by rw [wrap64 (by omega) (by omega)]; omega
         have sl : aSlice (.str (T.drop e)) (some (.sc (.int .i64 (n : Int)))) none none = some (.str (T.drop (e + n))) := by
          rw [sl_from (by omega), List.drop_drop]
         simp -implicitDefEqProofs (disch := first | exact nbf rfl | exact nbt rfl | (simp only [zN.down, reduceCtorEq] <;> omega) | omega) only [e0, e1, d1, g1, c1, c2, t1, sa, cp, hat, le2, w2, sl, XOp.kind, AOp.kind, zU.down, simprocAttr]
         exact ⟨T.length - (e + n), by omega, e + n, _, rfl, hn1, rfl, rfl, pw, (k1.put (.inl rfl) lt1 _).put (.inl rfl) (by simp; exact lt1) _⟩
       · have d1 : decide (((T.drop e).length : Int) > 0) = false := by simp only [decide_eq_false_iff_not]; omega
         have : e = T.length := by omega
         subst this
         simp -implicitDefEqProofs (disch := first | exact nbf rfl | exact nbt rfl | (simp only [zN.down, reduceCtorEq] <;> omega) | omega) only [e1, d1, XOp.kind, AOp.kind, zU.down, simprocAttr]
         exact ⟨_, _, cs, rfl, g1, p1, k1⟩
   · rintro _ ⟨ρ, σ', cs, rfl, g1, p1, k1⟩
     simp -implicitDefEqProofs (disch := first | exact nbf rfl | exact nbt rfl | (simp only [zN.down, reduceCtorEq] <;> omega) | omega) only [XOp.kind, AOp.kind, zU.down, simprocAttr]
     exact ⟨⟨cs, g1, p1⟩, k1⟩
def rfrom (s : List UInt8) (at' : Int) : List UInt8 × Int × Int :=
 if at' > s.length then ([], 0, 5) else ((s.drop (max at' ((s.length - 1024 : Nat) : Int)).toNat).take 64, max at' ((s.length - 1024 : Nat) : Int), 0)
theorem from_ok (k : Nat) (ys : YlF) (σ : St) (o : Nat) (s : List UInt8) (at' : Int) (h : RG σ o s) (hs : s.length ≤ 1099511627776) (hk : 100 ≤ k) :
  W (callY Tab.tb (k + 2) ys 55 [.ptr o 0, .sc (.int .i64 at'), .sc (.int .i64 64)] σ) fun r => r.1 = .tup [.str (rfrom s at').1, .sc (.int .i64 (rfrom s at').2.1), .sc (.int .i64 (rfrom s at').2.2)] ∧ Kept noX σ r.2 := by
 rw [s_call (af := Tab.b55) rfl (Nat.le_of_ble_eq_true rfl)]
 have hf := fun σ h => first_ok k ys σ o s h hs
 generalize callY Tab.tb (k + 1) = cy at hf ⊢
 have hn : ∀ σ, aEqV σ .ptr (.ptr o 0) (.sc .nilP) = some false := fun σ => rfl
 have hh := h
 obtain ⟨cs, g, p⟩ := h
 have c1 := p.en
 have c2 := p.lim
 unfold rfrom
 by_cases hb : at' > s.length
 · have d1 : decide (at' > (s.length : Int)) = true := by simpa using hb
   rw [if_pos hb]
   simp -implicitDefEqProofs (disch := first | exact nbf rfl | exact nbt rfl | (simp only [zN.down, reduceCtorEq] <;> omega) | omega) only [Tab.b55, hn, g, c1, d1, XOp.kind, aArrAddr, AOp.kind, zP.down, zQ.down, zR.down, zS.down, simprocAttr]
   exact Kept.refl _ _
 have d1 : decide (at' > (s.length : Int)) = false := by simpa using hb
 rw [if_neg hb]
 have m1 := maxf at' ((s.length - 1024 : Nat) : Int)
 obtain ⟨a, ha⟩ : ∃ a : Nat, max at' ((s.length - 1024 : Nat) : Int) = a := ⟨(max at' ((s.length - 1024 : Nat) : Int)).toNat, by omega⟩
 have ha1 : a ≤ s.length := by omega
 have ha2 : s.length ≤ a + 1024 := by omega
 rw [ha] at m1
 rw [ha, Int.toNat_natCast]
 have w1 : IntKind.i64.wrap ((s.length : Int) - (a : Int)) = (s.length : Int) - (a : Int) := wrap64 (by omega) (by omega)
 have m2 := minf 64 ((s.length : Int) - (a : Int))
 obtain ⟨n, hnn⟩ : ∃ n : Nat, min (64 : Int) ((s.length : Int) - (a : Int)) = n := ⟨(min (64 : Int) ((s.length : Int) - (a : Int))).toNat, by omega⟩
 rw [hnn] at m2
 have hn1 : n ≤ 64 ∧ a + n ≤ s.length := by omega
 have hZ : (s.drop a).take 64 = (s.drop a).take n := by
  by_cases hq : n = 64
  · rw [hq]
  · rw [List.take_of_length_le (by simp; omega), List.take_of_length_le (by simp; omega)]
 rw [hZ]
 have mk : ∀ σ, XOp.run σ (.mkslice true 1 1 [.sc (.int .u8 0)]) [.sc (.int .i64 0), .sc (.int .i64 (n : Int))] = some (.os σ.n 0 1 0 (some n), σ.push (.cells (List.replicate n (.sc (.int .u8 0))))) := by
  intro σ
  have q1 : (0 : Int) ≤ 0 ∧ (0 : Int) ≤ n ∧ (n : Int).toNat * 1 ≤ 16777216 ∧ ((1 : Nat) : Int) * n ≤ 281474976710656 ∧ (n : Int) ≤ 16777216 ∧ [V.sc (.int .u8 0)].length = 1 := by
   simp; omega
  simp only [XOp.run]
  rw [if_pos q1, if_pos trivial, Int.toNat_natCast, zeros1]
  rfl
 simp -implicitDefEqProofs (disch := first | exact nbf rfl | exact nbt rfl | (simp only [zN.down, reduceCtorEq] <;> omega) | omega) only [Tab.b55, hn, g, c1, d1, XOp.kind, aArrAddr, AOp.kind, zP.down, zQ.down, zR.down, zS.down, simprocAttr]
 simp -implicitDefEqProofs (disch := first | exact nbf rfl | exact nbt rfl | (simp only [zN.down, reduceCtorEq] <;> omega) | omega) only [hf σ hh, m1, g, c1, w1, m2, mk, XOp.kind, AOp.kind, zU.down, simprocAttr]
 repeat first | apply w_fin | apply w_seq | apply w_block | apply w_reg | apply w_op | apply w_dop
 generalize hZd : (s.drop a).take n = Z at *
 have hZl : Z.length = n := by rw [← hZd]; simp; omega
 have hp : σ.n < (σ.push (.cells (List.replicate n (.sc (.int .u8 0))))).n := by simp
 have g0 : (σ.push (.cells (List.replicate n (.sc (.int .u8 0))))).get σ.n = some (.cells (List.replicate n (.sc (.int .u8 0)))) := get_push_self
 have k0 : Kept noX σ (σ.push (.cells (List.replicate n (.sc (.int .u8 0))))) := (Kept.refl _ _).push _
 generalize σ.push (.cells (List.replicate n (.sc (.int .u8 0)))) = σ1 at *
 refine W.mono (Q := fun r => ∃ (ρ : Env) (σ' : St), r = ((.exit 1 : Ex), ρ, σ') ∧ ρ 1 = .sc (.int .i64 (a : Int)) ∧ ρ 10 = .os σ.n 0 1 n (some n) ∧ σ'.get σ.n = some (.cells (Z.map byteV)) ∧ Kept noX σ σ') ?_ ?_
 · refine w_loop (fun m ρ σ' => ∃ i, m = n - i ∧ i ≤ n ∧ ρ 0 = .ptr o 0 ∧ ρ 1 = .sc (.int .i64 (a : Int)) ∧ ρ 10 = .os σ.n 0 1 i (some n) ∧ ρ 40 = .sc (.int .i64 (n : Int)) ∧ ρ 41 = .sc (.int .i64 (i : Int)) ∧ σ'.get σ.n = some (.cells ((Z.take i).map byteV ++ List.replicate (n - i) (.sc (.int .u8 0)))) ∧ Kept noX σ σ') n (by omega) ?_ ?_
   · refine ⟨0, rfl, Nat.zero_le _, ?_, ?_, ?_, ?_, ?_, by simpa using g0, k0⟩
     all_goals first | rfl | (simp -implicitDefEqProofs (disch := first | exact nbf rfl | exact nbt rfl | (simp only [zN.down, reduceCtorEq] <;> omega) | omega) only [XOp.kind, AOp.kind, zU.down, simprocAttr]; done) | (simp -implicitDefEqProofs (disch := first | exact nbf rfl | exact nbt rfl | (simp only [zN.down, reduceCtorEq] <;> omega) | omega) only [XOp.kind, AOp.kind, zU.down, simprocAttr]; rfl)
   · rintro m ρ σ' ⟨i, hm, hi, e0, e1, e10, e40, e41, g1, k1⟩
     by_cases hl : i < n
     · have d2 : decide ((i : Int) < (n : Int)) = true := by simpa using hl
       have gr := k1.get _ _ (fun h => h) g
       have w2 : IntKind.i64.wrap ((a : Int) + (i : Int)) = ((a + i : Nat) : Int) := by rw [wrap64 (by omega) (by omega)]; omega
       have w3 : IntKind.i64.wrap ((i : Int) + 1) = ((i + 1 : Nat) : Int) := wrap64 (by omega) (by omega)
       have t1 : Int.tmod ((a + i : Nat) : Int) 1024 = (((a + i) % 1024 : Nat) : Int) := tmod_nat (b := 1024)
       have hm1 : (a + i) % 1024 < 1024 := Nat.mod_lt _ (by decide)
       have ad := arr_ok (o := o) (off := 0) (len := 1024) (sz := 1) (i := (a + i) % 1024) hm1
       rw [Nat.zero_add, Nat.mul_one] at ad
       have hzi : s[a + i]? = some (Z[i]'(by omega)) := by
        have : Z[i]? = s[a + i]? := by rw [← hZd, List.getElem?_take, if_pos (by omega), List.getElem?_drop]
        rw [← this]
        exact List.getElem?_eq_getElem (by omega)
       have ce := p.el (a + i) _ (by omega) hzi (by omega)
       have lt1 := St.get_lt g1
       have hset : splice ((Z.take i).map byteV ++ List.replicate (n - i) (V.sc (.int .u8 0))) i [byteV (Z[i]'(by omega))] = (Z.take (i + 1)).map byteV ++ List.replicate (n - (i + 1)) (.sc (.int .u8 0)) := by
        rw [splice1 (by simp; omega), List.set_append_right _ _ (by simp; omega)]
        rw [show i - ((Z.take i).map byteV).length = 0 by simp; omega, show n - i = (n - (i + 1)) + 1 by omega, List.replicate_succ, List.set_cons_zero]
        rw [← List.take_append_getElem (by omega : i < Z.length), List.map_append, List.append_assoc]
        rfl
       have ap : aAppend true 1 1 σ' (.os σ.n 0 1 i (some n)) (.vs .exact 1 1 [byteV (Z[i]'(by omega))]) = some (.os σ.n 0 1 (i + 1) (some n), σ'.put σ.n (some (.cells ((Z.take (i + 1)).map byteV ++ List.replicate (n - (i + 1)) (.sc (.int .u8 0)))))) := by
        have q0 : [byteV (Z[i]'(by omega))].all V.oneCell = true := rfl
        have q1 : (i + 1) * 1 ≤ roomB ∧ i + 1 ≤ roomB := by unfold roomB; omega
        have q2 : 0 + i * 1 ≤ ((Z.take i).map byteV ++ List.replicate (n - i) (V.sc (.int .u8 0))).length := by simp; omega
        have q3 : 0 + (i + 1) * 1 ≤ ((Z.take i).map byteV ++ List.replicate (n - i) (V.sc (.int .u8 0))).length := by simp; omega
        have q4 : i + 1 ≤ n := by omega
        simp only [aAppend, aSrc, if_true, Option.bind_some, Nat.succ_ne_zero, if_false, q0, aGrow, g1, q1, q2, and_self, aObj, q3, q4, Nat.zero_add, Nat.mul_one, hset, (by decide : 0 < 1)]
        simp [hset]
        omega
       have bs : aBslice 1 1 [.sc (.int .u8 0)] [(0, 1, byteV (Z[i]'(by omega)))] = some (.vs .exact 1 1 [byteV (Z[i]'(by omega))]) := rfl
       generalize Z[i]'(by omega) = z at *
       simp only [byteV] at ce bs ap
       simp -implicitDefEqProofs (disch := first | exact nbf rfl | exact nbt rfl | (simp only [zN.down, reduceCtorEq] <;> omega) | omega) only [e0, e1, e10, e40, e41, d2, gr, c2, w2, w3, t1, ad, ce, bs, ap, XOp.kind, aEqV, AOp.kind, zP.down, zQ.down, zR.down, zS.down, simprocAttr]
       refine ⟨n - (i + 1), by omega, i + 1, rfl, hl, rfl, rfl, ?_, k1.put (.inr (Nat.le_refl _)) lt1 _⟩
       rfl
     · have d2 : decide ((i : Int) < (n : Int)) = false := by simpa using hl
       have : i = n := by omega
       subst this
       rw [List.take_of_length_le (by omega), Nat.sub_self, List.replicate_zero, List.append_nil] at g1
       simp -implicitDefEqProofs (disch := first | exact nbf rfl | exact nbt rfl | (simp only [zN.down, reduceCtorEq] <;> omega) | omega) only [e40, e41, d2, XOp.kind, AOp.kind, zU.down, simprocAttr]
       exact ⟨_, _, rfl, by simp -implicitDefEqProofs (disch := first | exact nbf rfl | exact nbt rfl | (simp only [zN.down, reduceCtorEq] <;> omega) | omega) only [e1, XOp.kind, AOp.kind, zU.down, simprocAttr], by simp -implicitDefEqProofs (disch := first | exact nbf rfl | exact nbt rfl | (simp only [zN.down, reduceCtorEq] <;> omega) | omega) only [e10, XOp.kind, AOp.kind, zU.down, simprocAttr], g1, k1⟩
 · rintro _ ⟨ρ, σ', rfl, e1, e10, g1, k1⟩
   have hb2 : aB2s σ' (.os σ.n 0 1 n (some n)) = some (.str Z) := by
    simp only [aB2s, aSrc, g1, Nat.mul_one, Nat.zero_add, List.drop_zero, List.length_map, hZl, Nat.le_refl, and_self, if_true, Option.bind_some, true_and]
    rw [List.take_of_length_le (by simp [hZl]), mapM_byte]
    rfl
   simp -implicitDefEqProofs (disch := first | exact nbf rfl | exact nbt rfl | (simp only [zN.down, reduceCtorEq] <;> omega) | omega) only [e1, e10, hb2, XOp.kind, AOp.kind, zU.down, simprocAttr]
   exact k1
end Go.Proofs.YtehdjkikcfeiaaaGreat.rg
namespace Go.Proofs.YtehdjkikcfeiaaaGreat.jn
open Go.Ab fr dk rg
set_option maxRecDepth 100000
set_option maxHeartbeats 8000000
set_option linter.unusedSimpArgs false
set_option linter.unusedVariables false
structure Ms where
 k : Int
 fr : Int
 to' : Int
 te : Int
 ix : Int
 lt : Int
 co : Int
 st : Int
 go : Bool
 en : V
 at' : Int
 tot : Int
 dat : List UInt8
 talk : Int
 term : Int
 ep : Int
 seq : Int
 cl : Int
 rq : Int
 op : Int
 er : Int
 le : Int
def mc (m : Ms) : List V := [.sc (.int .u8 m.k), .sc (.int .i64 m.fr), .sc (.int .i64 m.to'), .sc (.int .i64 m.te), .sc (.int .i64 m.ix), .sc (.int .i64 m.lt), .sc (.int .i64 m.co), .sc (.int .i64 m.st), .sc (.bool m.go), m.en, .sc (.int .i64 m.at'), .sc (.int .i64 m.tot), .str m.dat, .sc (.int .i64 m.talk), .sc (.int .i64 m.term), .sc (.int .i64 m.ep), .sc (.int .i64 m.seq), .sc (.int .i64 m.cl), .sc (.int .i64 m.rq), .sc (.int .u8 m.op), .sc (.int .i64 m.er), .sc (.int .i64 m.le)]
def z0 : Ms := ⟨0, 0, 0, 0, 0, 0, 0, 0, false, .sc .nilS, 0, 0, [], 0, 0, 0, 0, 0, 0, 0, 0, 0⟩
def tkm (m : Ms) : Tk := ⟨m.talk, m.term, m.ep, m.seq, m.dat⟩
structure Sn where
 t : Int
 f : Int
 e : Int
def snc (s : Sn) : List V := [.sc (.int .i64 s.t), .sc (.int .i64 s.f), .sc (.int .i64 s.e)]
def look : List Sn → Int → Int × Int
 | [], _ => (0, 0)
 | s :: S, t => if s.t = t then (s.f, s.e) else look S t
def sees (S : List Sn) (t f e : Int) : List Sn := S.filter (fun s => s.t != t) ++ [⟨t, f, e⟩]
def Ds (S : List Sn) : Prop := S.Pairwise fun a b => a.t ≠ b.t
theorem look_none : ∀ {S : List Sn} {t : Int}, (∀ s ∈ S, s.t ≠ t) → look S t = (0, 0)
 | [], _, _ => rfl
 | s :: S, t, h => by
  unfold look
  rw [if_neg (h s List.mem_cons_self)]
  exact look_none fun a ha => h a (List.mem_cons_of_mem _ ha)
theorem look_append : ∀ (S : List Sn) (t : Int) (x : Sn), look (S ++ [x]) t = if (∃ s ∈ S, s.t = t) then look S t else if x.t = t then (x.f, x.e) else (0, 0)
 | [], t, x => by simp [look]
 | s :: S, t, x => by
  rw [List.cons_append]
  unfold look
  by_cases h : s.t = t
  · rw [if_pos h, if_pos h, if_pos ⟨s, List.mem_cons_self, h⟩]
  · rw [if_neg h, if_neg h, look_append S t x]
    simp [h]
theorem look_filter : ∀ (S : List Sn) (t x : Int), x ≠ t → look (S.filter fun s => s.t != t) x = look S x
 | [], _, _, _ => rfl
 | s :: S, t, x, h => by
  rw [List.filter_cons]
  by_cases c : s.t = t
  · rw [if_neg (by simp [c]), look_filter S t x h]
    conv => rhs; unfold look
    rw [if_neg (by omega)]
  · rw [if_pos (by simp [c])]
    unfold look
    rw [look_filter S t x h]
theorem look_sees (S : List Sn) (t f e x : Int) : look (sees S t f e) x = if x = t then (f, e) else look S x := by
 unfold sees
 rw [look_append]
 by_cases h : x = t
 · subst h
   rw [if_neg (by rintro ⟨s, hs, h⟩; simp at hs; exact hs.2 h), if_pos rfl, if_pos rfl]
 · rw [if_neg h, if_neg (show ¬ (⟨t, f, e⟩ : Sn).t = x from fun q => h q.symm), look_filter _ _ _ h]
   split
   · rfl
   · rename_i hq
     refine (look_none fun s hs hx => hq ⟨s, ?_, hx⟩).symm
     simp
     exact ⟨hs, by omega⟩
theorem Ds.sees {S : List Sn} (h : Ds S) (t f e : Int) : Ds (sees S t f e) := by
 unfold Ds jn.sees
 rw [List.pairwise_append]
 refine ⟨h.filter _, by simp, fun a ha b hb => ?_⟩
 simp at ha hb
 rw [hb]
 exact ha.2
theorem sees_len (S : List Sn) (t f e : Int) : (sees S t f e).length ≤ S.length + 1 := by
 unfold sees
 have := List.length_filter_le (fun s : Sn => s.t != t) S
 simp
 omega
def stp (t : Int) (a : Int × Int) (s : Sn) : Int × Int := if s.t = t ∧ tabv ⟨s.f, s.e, 0⟩ ⟨0, a.1, a.2, 0, []⟩ then (s.f, s.e) else a
theorem stp_none : ∀ {S : List Sn} {t : Int} (a : Int × Int), (∀ s ∈ S, s.t ≠ t) → S.foldl (stp t) a = a
 | [], _, _, _ => rfl
 | s :: S, t, a, h => by
  rw [List.foldl_cons]
  have : stp t a s = a := by unfold stp; rw [if_neg fun q => h s List.mem_cons_self q.1]
  rw [this]
  exact stp_none a fun x hx => h x (List.mem_cons_of_mem _ hx)
theorem stp_look : ∀ {S : List Sn} (_h : Ds S) (t : Int) (a : Int × Int), 0 ≤ a.1 → 0 ≤ a.2 → S.foldl (stp t) a = if tabv ⟨(look S t).1, (look S t).2, 0⟩ ⟨0, a.1, a.2, 0, []⟩ then look S t else a
 | [], _, t, a, h1, h2 => by
  rw [if_neg]
  · rfl
  · unfold tabv look
    dsimp only
    omega
 | s :: S, h, t, a, h1, h2 => by
  unfold Ds at h
  rw [List.pairwise_cons] at h
  rw [List.foldl_cons]
  unfold look
  by_cases c : s.t = t
  · rw [if_pos c, stp_none _ fun x hx => by have := h.1 x hx; omega]
    unfold stp
    simp only [c, true_and]
  · rw [if_neg c]
    have : stp t a s = a := by unfold stp; rw [if_neg fun q => c q.1]
    rw [this]
    exact stp_look h.2 t a h1 h2
theorem tnx_ok : ∀ {L : List Tk} (_h : ∀ x ∈ L, tchk x = 0) (t : Int) (a : Nx), (0 ≤ a.f ∧ 0 ≤ a.e ∧ 1 ≤ a.n ∧ a.n ≤ 1048577) → 0 ≤ (L.foldl (tst t) a).f ∧ 0 ≤ (L.foldl (tst t) a).e ∧ 1 ≤ (L.foldl (tst t) a).n ∧ (L.foldl (tst t) a).n ≤ 1048577
 | [], _, _, _, h => h
 | x :: L, hL, t, a, h => by
  rw [List.foldl_cons]
  refine tnx_ok (fun y hy => hL y (List.mem_cons_of_mem _ hy)) t _ ?_
  have hx := (tchk_0.1 (hL x List.mem_cons_self)).1
  unfold tbad at hx
  unfold tst
  split
  · dsimp only; omega
  · exact h
theorem tnx_b {L : List Tk} (h : ∀ x ∈ L, tchk x = 0) (t : Int) : 0 ≤ (tnx L t).f ∧ 0 ≤ (tnx L t).e ∧ 1 ≤ (tnx L t).n ∧ (tnx L t).n ≤ 1048577 := tnx_ok h t _ (by simp)
def gright (L : List Tk) (S : List Sn) (t : Int) : Int × Int := if tabv ⟨(look S t).1, (look S t).2, 0⟩ ⟨0, (tnx L t).f, (tnx L t).e, 0, []⟩ then look S t else ((tnx L t).f, (tnx L t).e)
def taken (L : List Tk) (t : Int) : Int := (tnx L t).n - 1
def gbad (m : Ms) : Prop := (m.k ≠ 7 ∧ m.k ≠ 9 ∧ m.k ≠ 11) ∨ m.fr < 0 ∨ m.fr > 15 ∨ m.talk < 1 ∨ m.talk > 1048576 ∨ m.term < 1 ∨ m.term > 1099511627776 ∨ m.ep < 1 ∨ m.ep > 1048576
instance (m : Ms) : Decidable (gbad m) := by unfold gbad; exact inferInstance
def olen (o : Option (List UInt8)) : Nat := (o.getD []).length
def pull (o : Option (List UInt8)) (a : Int) : List UInt8 × Int × Int := match o with
 | none => ([], 0, 1)
 | some s => rfrom s a
structure GI where
 a : Ms
 e : Int
 M : DM
 L : List Tk
 jbr : Int
def gin (m : Ms) (o : Option (List UInt8)) (M : DM) (L : List Tk) (jbr : Int) : GI :=
 if m.k = 7 then ⟨{ z0 with seq := taken L m.talk, tot := olen o }, 0, M, L, jbr⟩
 else if m.k = 11 then ⟨{ z0 with seq := taken L m.talk, tot := olen o, dat := (pull o m.at').1, at' := (pull o m.at').2.1, er := (pull o m.at').2.2 }, 0, M, L, jbr⟩
 else if m.dat.length > 64 then ⟨{ z0 with seq := taken L m.talk, er := 3 }, 0, M, L, jbr⟩
 else if 1 ≤ m.seq ∧ m.seq ≤ taken L m.talk then ⟨{ z0 with seq := taken L m.talk }, 0, M, L, jbr⟩
 else if m.seq ≠ taken L m.talk + 1 then ⟨{ z0 with seq := taken L m.talk, er := 221 }, 0, M, L, jbr⟩
 else ⟨{ z0 with seq := m.seq }, (jadd M L jbr (tkm m)).2.2.2, (jadd M L jbr (tkm m)).1, (jadd M L jbr (tkm m)).2.1, (jadd M L jbr (tkm m)).2.2.1⟩
theorem gin_en (m : Ms) (o : Option (List UInt8)) (M : DM) (L : List Tk) (jbr : Int) : (gin m o M L jbr).a.en = .sc .nilS := by
 unfold gin
 repeat' split
 all_goals rfl
structure GQ where
 a : Ms
 e : Int
 M : DM
 L : List Tk
 jbr : Int
 S : List Sn
 br : Int
def gdo (m : Ms) (o : Option (List UInt8)) (M : DM) (L : List Tk) (jbr : Int) (S : List Sn) (br : Int) : GQ :=
 if br ≠ 0 then ⟨z0, br, M, L, jbr, S, br⟩
 else if gbad m then ⟨z0, 2, M, L, jbr, S, br⟩
 else if tabv ⟨(gright L S m.talk).1, (gright L S m.talk).2, 0⟩ (tkm m) then ⟨{ z0 with k := m.k + 1, fr := 3, to' := m.fr, talk := m.talk, term := (gright L S m.talk).1, ep := (gright L S m.talk).2, seq := taken L m.talk, er := 220 }, 0, M, L, jbr, S, br⟩
 else if (gin m o M L jbr).e ≠ 0 then ⟨z0, (gin m o M L jbr).e, (gin m o M L jbr).M, (gin m o M L jbr).L, (gin m o M L jbr).jbr, S, (gin m o M L jbr).e⟩
 else ⟨{ z0 with k := m.k + 1, fr := 3, to' := m.fr, talk := m.talk, term := m.term, ep := m.ep, seq := (gin m o M L jbr).a.seq, at' := (gin m o M L jbr).a.at', tot := (gin m o M L jbr).a.tot, dat := (gin m o M L jbr).a.dat, er := (gin m o M L jbr).a.er }, 0, (gin m o M L jbr).M, (gin m o M L jbr).L, (gin m o M L jbr).jbr, sees S m.talk m.term m.ep, br⟩
theorem gdo_en (m : Ms) (o : Option (List UInt8)) (M : DM) (L : List Tk) (jbr : Int) (S : List Sn) (br : Int) : (gdo m o M L jbr S br).a.en = .sc .nilS := by
 unfold gdo
 repeat' split
 all_goals rfl
def RP (σ : St) (rv : V) : Option (List UInt8) → Prop
 | none => rv = .sc .nilP
 | some s => ∃ p, rv = .ptr p 0 ∧ RG σ p s
def ovl (o : Option (List UInt8)) : V := .agg [.sc (.bool o.isSome), .str (o.getD []), .sc (.int .i64 (((o.getD []).length - 1024 : Nat) : Int))]
theorem RP.kept {X : Nat → Prop} {σ σ' : St} {rv : V} {o : Option (List UInt8)} (h : RP σ rv o) (k : Kept X σ σ') (hx : ∀ p, rv = .ptr p 0 → ¬ X p) : RP σ' rv o := by
 cases o with
 | none => exact h
 | some s =>
  obtain ⟨p, rfl, h⟩ := h
  exact ⟨p, rfl, h.kept k (hx p rfl)⟩
theorem RP.cell {σ : St} {rv : V} {o : Option (List UInt8)} (h : RP σ rv o) : rv.cellsOf = [rv] ∧ rv.oneCell = true := by
 cases o with
 | none => cases h; exact ⟨rfl, rfl⟩
 | some s => obtain ⟨p, rfl, _⟩ := h; exact ⟨rfl, rfl⟩
theorem rend_ok' (k : Nat) (ys : YlF) (σ : St) (rv : V) (o : Option (List UInt8)) (h : RP σ rv o) : callY Tab.tb (k + 1) ys 53 [rv] σ = some (.sc (.int .i64 (olen o : Nat)), σ) := by
 cases o with
 | none =>
  cases h
  rw [s_call (af := Tab.b53) rfl (Nat.le_of_ble_eq_true rfl)]
  generalize callY Tab.tb k = cy
  have hn : aEqV σ .ptr (.sc .nilP) (.sc .nilP) = some true := rfl
  simp -implicitDefEqProofs (disch := first | exact nbf rfl | exact nbt rfl | (simp only [zN.down, reduceCtorEq] <;> omega) | omega) only [Tab.b53, hn, XOp.kind, aArrAddr, AOp.kind, zP.down, zQ.down, zR.down, zS.down, simprocAttr]
  rfl
 | some s =>
  obtain ⟨p, rfl, h⟩ := h
  exact rg.end_ok k ys σ p s h
theorem rfrom_ok' (k : Nat) (ys : YlF) (σ : St) (rv : V) (o : Option (List UInt8)) (a : Int) (h : RP σ rv o) (hs : olen o ≤ 1099511627776) (hk : 100 ≤ k) :
  W (callY Tab.tb (k + 2) ys 55 [rv, .sc (.int .i64 a), .sc (.int .i64 64)] σ) fun r => r.1 = .tup [.str (pull o a).1, .sc (.int .i64 (pull o a).2.1), .sc (.int .i64 (pull o a).2.2)] ∧ Kept noX σ r.2 := by
 cases o with
 | none =>
  cases h
  rw [s_call (af := Tab.b55) rfl (Nat.le_of_ble_eq_true rfl)]
  generalize callY Tab.tb (k + 1) = cy
  have hn : aEqV σ .ptr (.sc .nilP) (.sc .nilP) = some true := rfl
  simp -implicitDefEqProofs (disch := first | exact nbf rfl | exact nbt rfl | (simp only [zN.down, reduceCtorEq] <;> omega) | omega) only [Tab.b55, hn, XOp.kind, aArrAddr, AOp.kind, zP.down, zQ.down, zR.down, zS.down, simprocAttr]
  exact ⟨rfl, Kept.refl _ _⟩
 | some s =>
  obtain ⟨p, rfl, h⟩ := h
  exact rg.from_ok k ys σ p s a h hs hk
end Go.Proofs.YtehdjkikcfeiaaaGreat.jn
namespace Go.Proofs.YtehdjkikcfeiaaaGreat.jn
open Go.Ab fr dk rg
set_option maxRecDepth 100000
set_option maxHeartbeats 8000000
set_option linter.unusedSimpArgs false
set_option linter.unusedVariables false
abbrev En := Int × Int × Int × Nat
def en (e : En) : V × V × Nat := (.sc (.int .i64 e.1), .agg [.sc (.int .i64 e.2.1), .sc (.int .i64 e.2.2.1)], e.2.2.2)
def elook : List En → Int → Int × Int
 | [], _ => (0, 0)
 | e :: l, t => if e.1 = t then (e.2.1, e.2.2.1) else elook l t
theorem find_en (t : Int) : ∀ (l : List En) (j : Nat), ((∀ σ, aFind σ (.int .i64) (.sc (.int .i64 t)) (l.map en) j = some none) ∧ elook l t = (0, 0) ∧ ∀ f e c x, elook (l ++ [(t, f, e, c)]) x = if x = t then (f, e) else elook l x) ∨
  ∃ i, (∀ σ, aFind σ (.int .i64) (.sc (.int .i64 t)) (l.map en) j = some (some (i + j, .sc (.int .i64 t), .agg [.sc (.int .i64 (elook l t).1), .sc (.int .i64 (elook l t).2)]))) ∧ ∀ f e x, elook (l.modify i fun x => (t, f, e, x.2.2.2)) x = if x = t then (f, e) else elook l x := by
 intro l
 induction l with
 | nil =>
  intro j
  refine .inl ⟨fun σ => rfl, rfl, fun f e c x => ?_⟩
  by_cases h : x = t
  · subst h; simp [elook]
  · simp [elook, h]; exact fun q => absurd q.symm h
 | cons e l ih =>
  intro j
  have he : ∀ σ, aEqV σ (.int .i64) (.sc (.int .i64 t)) (en e).1 = some (t == e.1) := fun σ => by simp [aEqV, en, aEqInt]
  by_cases c : e.1 = t
  · right
    refine ⟨0, fun σ => ?_, fun f e' x => ?_⟩
    · rw [List.map_cons, aFind, he]
      simp [c, en, elook]
    · rw [List.modify_zero_cons]
      by_cases h : x = t
      · subst h; simp [elook]
      · simp only [elook]
        rw [if_neg (fun q => h q.symm), if_neg h, if_neg (by omega)]
  · have c' : (t == e.1) = false := by simp; exact fun h => c h.symm
    have el : ∀ x, elook (e :: l) x = if e.1 = x then (e.2.1, e.2.2.1) else elook l x := fun x => rfl
    rcases ih (j + 1) with ⟨h1, h2, h3⟩ | ⟨i, h1, h3⟩
    · left
      refine ⟨fun σ => ?_, by rw [el, if_neg c, h2], fun f e' cc x => ?_⟩
      · rw [List.map_cons, aFind, he]
        simp only [Option.bind_some, c', Bool.false_eq_true, if_false]
        exact h1 σ
      · rw [List.cons_append, el]
        show (if e.1 = x then (e.2.1, e.2.2.1) else elook (l ++ [(t, f, e', cc)]) x) = _
        rw [h3]
        by_cases h : e.1 = x
        · rw [if_pos h, if_neg (by omega), if_pos h]
        · rw [if_neg h, if_neg h]
    · right
      refine ⟨i + 1, fun σ => ?_, fun f e' x => ?_⟩
      · rw [List.map_cons, aFind, he]
        simp only [Option.bind_some, c', Bool.false_eq_true, if_false]
        rw [h1 σ, el, if_neg c, show i + (j + 1) = i + 1 + j by omega]
      · rw [List.modify_succ_cons]
        show (if e.1 = x then (e.2.1, e.2.2.1) else elook (l.modify i _) x) = _
        rw [h3, el]
        by_cases h : e.1 = x
        · rw [if_pos h, if_neg (by omega), if_pos h]
        · rw [if_neg h, if_neg h]
theorem en_modify (l : List En) (i : Nat) (t f e : Int) : (l.map en).modify i (fun x => (.sc (.int .i64 t), .agg [.sc (.int .i64 f), .sc (.int .i64 e)], x.2.2)) = (l.modify i fun x => (t, f, e, x.2.2.2)).map en := by
 refine List.ext_getElem? fun j => ?_
 simp only [List.getElem?_modify, List.getElem?_map]
 cases l[j]? with
 | none => rfl
 | some e => by_cases c : i = j <;> simp [c, en]
theorem key_int (σ : St) (t : Int) : aKey σ (.int .i64) (.sc (.int .i64 t)) = true := by simp [aKey, aEqV, aEqInt]
def MI (σ : St) (o : Nat) (F : Int → Int × Int) : Prop := ∃ (l : List En) (c : Nat), σ.get o = some (.map (l.map en) c) ∧ ∀ x, elook l x = F x
theorem MI.kept {σ σ' : St} {o : Nat} {F : Int → Int × Int} {X : Nat → Prop} (h : MI σ o F) (k : Kept X σ σ') (hx : ¬ X o) : MI σ' o F := by
 obtain ⟨l, c, h, h2⟩ := h; exact ⟨l, c, k.get _ _ hx h, h2⟩
theorem xlook {σ : St} {o : Nat} {F : Int → Int × Int} (h : MI σ o F) (t : Int) : XOp.run σ (.lookup (.int .i64) (.agg [.sc (.int .i64 0), .sc (.int .i64 0)]) false) [.mp o, .sc (.int .i64 t)] = some (.agg [.sc (.int .i64 (F t).1), .sc (.int .i64 (F t).2)], σ) := by
 obtain ⟨l, c, h, h2⟩ := h
 rw [← h2]
 rcases find_en t l 0 with ⟨hf, h0, _⟩ | ⟨i, hf, _⟩
 · rw [h0]
   simp only [XOp.run, aEnts, h, Option.bind_some, key_int, if_true, hf, Option.map_some]
   rfl
 · simp only [XOp.run, aEnts, h, Option.bind_some, key_int, if_true, hf, Option.map_some]
   rfl
theorem xupd {σ : St} {o : Nat} {F : Int → Int × Int} (h : MI σ o F) (t f e : Int) : ∃ σ', XOp.run σ (.mapUpd (.int .i64)) [.mp o, .sc (.int .i64 t), .agg [.sc (.int .i64 f), .sc (.int .i64 e)]] = some (.undef, σ') ∧ MI σ' o (fun x => if x = t then (f, e) else F x) ∧ Kept (· = o) σ σ' := by
 obtain ⟨l, c, h, h2⟩ := h
 have lo := St.get_lt h
 have base : ∀ (l' : List En) (c' : Nat), (∀ x, elook l' x = if x = t then (f, e) else elook l x) → MI (σ.put o (some (.map (l'.map en) c'))) o (fun x => if x = t then (f, e) else F x) ∧ Kept (· = o) σ (σ.put o (some (.map (l'.map en) c'))) := fun l' c' hq =>
  ⟨⟨l', c', get_put_self h, fun x => by show elook l' x = if x = t then (f, e) else F x; rw [hq, h2]⟩, Kept.put (X := (· = o)) (Kept.refl _ _) (.inl rfl) lo _⟩
 rcases find_en t l 0 with ⟨h3, _, h4⟩ | ⟨i, h3, h4⟩
 · refine ⟨_, ?_, base (l ++ [(t, f, e, c)]) (c + 1) (h4 f e c)⟩
   simp only [XOp.run, h, key_int, if_true, h3, Option.bind_some]
   rw [List.map_append]; rfl
 · refine ⟨_, ?_, base (l.modify i fun x => (t, f, e, x.2.2.2)) c (h4 f e)⟩
   simp only [XOp.run, h, key_int, if_true, h3, Option.bind_some, Nat.add_zero]
   rw [← en_modify]
   simp [V.plain, V.flat]
theorem clonem_ok (k : Nat) (ys : YlF) (σ : St) (o : Nat) (F : Int → Int × Int) (h : MI σ o F) :
  W (callY Tab.tb (k + 1) ys 31 [.mp o] σ) fun r => r.1 = .mp σ.n ∧ MI r.2 σ.n F ∧ Kept noX σ r.2 := by
 rw [s_call (af := Tab.b31) rfl (Nat.le_of_ble_eq_true rfl)]
 generalize callY Tab.tb k = cy
 obtain ⟨l, c, h, h2⟩ := h
 have hn : aEqV σ .map (.mp o) (.sc .nilM) = some false := rfl
 have hc : ∀ t, XOp.run σ .cloneMap [.ifc t (.mp o)] = some (.ifc t (.mp σ.n), σ.push (.map (l.map en) c)) := fun t => by simp only [XOp.run, h]
 have hi : ∀ t σ, XOp.run σ (.mkifc t) [.mp o] = some (.ifc t (.mp o), σ) := fun t σ => rfl
 have ha : ∀ t σ x, XOp.run σ (.assert t false) [.ifc t (.mp x)] = some (.mp x, σ) := fun t σ x => by simp [XOp.run]
 simp -implicitDefEqProofs (disch := first | exact nbf rfl | exact nbt rfl | (simp only [zN.down, reduceCtorEq] <;> omega) | omega) only [Tab.b31, hn, hc, hi, ha, XOp.kind, aArrAddr, AOp.kind, zP.down, zQ.down, zR.down, zS.down, simprocAttr]
 exact ⟨⟨l, c, get_push_self, h2⟩, (Kept.refl _ _).push _⟩
structure GR (σ : St) (g jb d : Nat) (L : List Tk) (jbr : Int) (S : List Sn) (br : Int) : Prop where
 g : ∃ o, σ.get g = some (.cells [.ptr jb 0, .mp o, .sc (.int .i64 br)]) ∧ MI σ o (look S)
 j : JR σ jb d L jbr
theorem GR.kept {X : Nat → Prop} {σ σ' : St} {g jb d : Nat} {L : List Tk} {jbr : Int} {S : List Sn} {br : Int} (h : GR σ g jb d L jbr S br) (k : Kept X σ σ') (h1 : ¬ X g) (h2 : ¬ X jb) (h3 : ∀ o, X o → ∃ cs, σ.get o = some (.cells cs)) : GR σ' g jb d L jbr S br := by
 obtain ⟨o, g1, m⟩ := h.g
 refine ⟨⟨o, k.get _ _ h1 g1, m.kept k fun hx => ?_⟩, h.j.kept k h2⟩
 obtain ⟨cs, hc⟩ := h3 o hx
 obtain ⟨l, c, hm, _⟩ := m
 rw [hm] at hc; cases hc
theorem GR.kept0 {σ σ' : St} {g jb d : Nat} {L : List Tk} {jbr : Int} {S : List Sn} {br : Int} (h : GR σ g jb d L jbr S br) (k : Kept noX σ σ') : GR σ' g jb d L jbr S br := h.kept k (fun h => h) (fun h => h) (fun o h => h.elim)
theorem right_ok (k : Nat) (ys : YlF) (σ : St) (g jb d : Nat) (L : List Tk) (jbr : Int) (S : List Sn) (br t : Int) (h : GR σ g jb d L jbr S br) (hc : ∀ x ∈ L, tchk x = 0) (hL : L.length ≤ 1000000) (hk : 1000020 ≤ k) :
  W (callY Tab.tb (k + 2) ys 29 [.ptr g 0, .sc (.int .i64 t)] σ) fun r => r.1 = .tup [.agg [.sc (.int .i64 (gright L S t).1), .sc (.int .i64 (gright L S t).2)], .sc (.int .i64 (taken L t))] ∧ Kept noX σ r.2 := by
 rw [s_call (af := Tab.b29) rfl (Nat.le_of_ble_eq_true rfl)]
 have hnx := fun σ h => next_ok k ys σ jb d L jbr t h hc hL hk
 have hab := fun σ a x => above_ok k ys σ a x
 generalize callY Tab.tb (k + 1) = cy at hnx hab ⊢
 obtain ⟨o, gg, mi⟩ := h.g
 have hj := h.j
 have hn := tnx_b hc t
 unfold gright taken
 simp -implicitDefEqProofs (disch := first | exact nbf rfl | exact nbt rfl | (simp only [zN.down, reduceCtorEq] <;> omega) | omega) only [Tab.b29, gg, XOp.kind, AOp.kind, zU.down, simprocAttr]
 repeat first | apply w_fin | apply w_seq | apply w_block | apply w_reg | apply w_op | apply w_dop
 refine (hnx _ (hj.kept (Kept.refl noX σ).bump (fun h => h))).mono ?_
 rintro ⟨_, σ2⟩ ⟨rfl, k2⟩
 dsimp only at k2
 have k2 : Kept noX σ σ2 := (Kept.refl noX σ).bump.trans k2
 have g2 := k2.get _ _ (fun h => h) gg
 generalize tnx L t = T at *
 have w1 : IntKind.i64.wrap (T.n - 1) = T.n - 1 := wrap64 (by omega) (by omega)
 have gb : σ2.bump.get g = some (.cells [.ptr jb 0, .mp o, .sc (.int .i64 br)]) := by rw [St.get_bump]; exact g2
 have hlook := xlook (mi.kept (k2.bump) (fun h => h)) t
 have hl3 := xlook (mi.kept (k2.bump.bump.bump) (fun h => h)) t
 generalize look S t = fe at hlook hl3 ⊢
 obtain ⟨f, e⟩ := fe
 have ha := hab σ2.bump ⟨f, e, 0⟩ ⟨0, T.f, T.e, 0, []⟩
 dsimp only at ha hlook hl3 ⊢
 by_cases c1 : tabv ⟨f, e, 0⟩ ⟨0, T.f, T.e, 0, []⟩
 · rw [decide_eq_true c1] at ha
   rw [if_pos c1]
   simp -implicitDefEqProofs (disch := first | exact nbf rfl | exact nbt rfl | (simp only [zN.down, reduceCtorEq] <;> omega) | omega) only [g2, gb, hlook, ha, hl3, w1, XOp.kind, AOp.kind, zU.down, simprocAttr]
   exact k2.bump.bump.bump
 · rw [decide_eq_false c1] at ha
   rw [if_neg c1]
   simp -implicitDefEqProofs (disch := first | exact nbf rfl | exact nbt rfl | (simp only [zN.down, reduceCtorEq] <;> omega) | omega) only [g2, gb, hlook, ha, w1, XOp.kind, AOp.kind, zU.down, simprocAttr]
   exact k2.bump.bump.bump
theorem Right_ok (k : Nat) (ys : YlF) (σ : St) (g jb d : Nat) (L : List Tk) (jbr : Int) (S : List Sn) (br t : Int) (h : GR σ g jb d L jbr S br) (hc : ∀ x ∈ L, tchk x = 0) (hL : L.length ≤ 1000000) (hk : 1000020 ≤ k) :
  W (callY Tab.tb (k + 3) ys 20 [.ptr g 0, .sc (.int .i64 t)] σ) fun r => r.1 = .tup [.agg [.sc (.int .i64 (gright L S t).1), .sc (.int .i64 (gright L S t).2)], .sc (.int .i64 (taken L t))] ∧ Kept noX σ r.2 := by
 rw [s_call (af := Tab.b20) rfl (Nat.le_of_ble_eq_true rfl)]
 have hri := fun σ h => right_ok k ys σ g jb d L jbr S br t h hc hL hk
 generalize callY Tab.tb (k + 2) = cy at hri ⊢
 simp -implicitDefEqProofs (disch := first | exact nbf rfl | exact nbt rfl | (simp only [zN.down, reduceCtorEq] <;> omega) | omega) only [Tab.b20, dk.pnil, XOp.kind, aArrAddr, AOp.kind, zP.down, zQ.down, zR.down, zS.down, simprocAttr]
 repeat first | apply w_fin | apply w_seq | apply w_block | apply w_reg | apply w_op | apply w_dop
 refine (hri _ (h.kept0 (Kept.refl noX σ).bump)).mono ?_
 rintro ⟨_, σ2⟩ ⟨rfl, k2⟩
 dsimp only at k2
 simp -implicitDefEqProofs (disch := first | exact nbf rfl | exact nbt rfl | (simp only [zN.down, reduceCtorEq] <;> omega) | omega) only [XOp.kind, AOp.kind, zU.down, simprocAttr]
 exact (Kept.refl noX σ).bump.trans k2
end Go.Proofs.YtehdjkikcfeiaaaGreat.jn
namespace Go.Proofs.YtehdjkikcfeiaaaGreat.jn
open Go.Ab fr dk rg
set_option maxRecDepth 100000
set_option maxHeartbeats 8000000
set_option linter.unusedSimpArgs false
set_option linter.unusedVariables false
section
variable (g jb d : Nat) (m : Ms) (o : Option (List UInt8)) (L : List Tk) (M : DM) (jbr : Int) (S : List Sn)
def Does (σ : St) (r : V × St) : Prop := r.1 = .tup [.agg (mc (gin m o M L jbr).a), .sc (.int .i64 (gin m o M L jbr).e)] ∧ GR r.2 g jb d (gin m o M L jbr).L (gin m o M L jbr).jbr S 0 ∧ DR r.2 d (gin m o M L jbr).M ∧ Kept (fun o => o = d ∨ o = jb) σ r.2
variable {g jb d m o L M jbr S}
theorem attach_ok (k : Nat) (ys : YlF) (σ : St) (h : GR σ g jb d L jbr S 0) (hd : DR σ d M) (hen : Cell1 m.en) {rv : V} (hr : RP σ rv o) (h7 : m.k = 7) :
  W (callY Tab.tb (k + 2) ys 26 [.ptr g 0, .agg (mc m), .sc (.int .i64 (taken L m.talk)), rv] σ) (Does g jb d m o L M jbr S σ) := by
 rw [s_call (af := Tab.b26) rfl (Nat.le_of_ble_eq_true rfl)]
 have he := fun σ h => rend_ok' k ys σ rv o h
 generalize callY Tab.tb (k + 1) = cy at he ⊢
 unfold Cell1 at hen
 have kb : Kept noX σ σ.bump.bump := (Kept.refl _ _).bump.bump
 have he1 := he _ (hr.kept kb (fun _ _ h => h))
 have hrc := hr.cell
 unfold Does gin
 rw [if_pos h7]
 simp only [mc, z0]
 simp -implicitDefEqProofs (disch := first | exact nbf rfl | exact nbt rfl | (simp only [zN.down, reduceCtorEq] <;> omega) | omega) only [Tab.b26, he1, hen.1, hen.2, hrc.1, hrc.2, XOp.kind, AOp.kind, zU.down, simprocAttr]
 exact ⟨h.kept0 kb, hd.kept kb (fun h => h), kb.any⟩
theorem pull_ok (k : Nat) (ys : YlF) (σ : St) (h : GR σ g jb d L jbr S 0) (hd : DR σ d M) (hen : Cell1 m.en) {rv : V} (hr : RP σ rv o) (ho : olen o ≤ 1099511627776) (h11 : m.k = 11) (hk : 100 ≤ k) :
  W (callY Tab.tb (k + 3) ys 28 [.ptr g 0, .agg (mc m), .sc (.int .i64 (taken L m.talk)), rv] σ) (Does g jb d m o L M jbr S σ) := by
 rw [s_call (af := Tab.b28) rfl (Nat.le_of_ble_eq_true rfl)]
 have he := fun σ h => rend_ok' (k + 1) ys σ rv o h
 have hf := fun σ a h => rfrom_ok' k ys σ rv o a h ho hk
 generalize callY Tab.tb (k + 2) = cy at he hf ⊢
 unfold Cell1 at hen
 have kb : Kept noX σ σ.bump.bump := (Kept.refl _ _).bump.bump
 have hrb := hr.kept kb (fun _ _ h => h)
 have hrc := hr.cell
 unfold Does gin
 rw [if_neg (show ¬ m.k = 7 by omega), if_pos h11]
 simp only [mc, z0]
 simp -implicitDefEqProofs (disch := first | exact nbf rfl | exact nbt rfl | (simp only [zN.down, reduceCtorEq] <;> omega) | omega) only [Tab.b28, hen.1, hen.2, hrc.1, hrc.2, XOp.kind, AOp.kind, zU.down, simprocAttr]
 repeat first | apply w_fin | apply w_seq | apply w_block | apply w_reg | apply w_op | apply w_dop
 refine (hf _ m.at' hrb).mono ?_
 rintro ⟨_, σ2⟩ ⟨rfl, k2⟩
 dsimp only at k2
 have k2 := kb.trans k2
 have he2 := he _ (hr.kept k2 (fun _ _ h => h))
 have hpe : (pull o m.at').2.2 ≠ 0 → (pull o m.at').1 = [] ∧ (pull o m.at').2.1 = 0 := by
  unfold pull
  cases o with
  | none => intro _; exact ⟨rfl, rfl⟩
  | some s =>
   dsimp only
   unfold rfrom
   split
   · intro _; exact ⟨rfl, rfl⟩
   · intro h; exact absurd rfl h
 generalize pull o m.at' = P at *
 by_cases hz : P.2.2 = 0
 · have d1 : (P.2.2 != 0) = false := by simp [hz]
   simp -implicitDefEqProofs (disch := first | exact nbf rfl | exact nbt rfl | (simp only [zN.down, reduceCtorEq] <;> omega) | omega) only [d1, he2, hrc.1, hrc.2, XOp.kind, AOp.kind, zU.down, simprocAttr]
   rw [hz]
   exact ⟨rfl, h.kept0 k2, hd.kept k2 (fun h => h), k2.any⟩
 · have d1 : (P.2.2 != 0) = true := by simp [hz]
   simp -implicitDefEqProofs (disch := first | exact nbf rfl | exact nbt rfl | (simp only [zN.down, reduceCtorEq] <;> omega) | omega) only [d1, he2, hrc.1, hrc.2, XOp.kind, AOp.kind, zU.down, simprocAttr]
   rw [(hpe hz).1, (hpe hz).2]
   exact ⟨rfl, h.kept0 k2, hd.kept k2 (fun h => h), k2.any⟩
theorem send_ok (k : Nat) (ys : YlF) (σ : St) (h : GR σ g jb d L jbr S 0) (hd : DR σ d M) {B : Nat} (hm : M.Ok B) (hB : B ≤ 900000) (hen : Cell1 m.en) {rv : V} (hr : RP σ rv o) (hk9 : m.k = 9) (hc : ∀ x ∈ L, tchk x = 0) (hL : L.length ≤ 900000) (hne : jb ≠ d ∧ g ≠ d ∧ g ≠ jb) (hk : 1000020 ≤ k) :
  W (callY Tab.tb (k + 7) ys 27 [.ptr g 0, .agg (mc m), .sc (.int .i64 (taken L m.talk)), rv] σ) (Does g jb d m o L M jbr S σ) := by
 rw [s_call (af := Tab.b27) rfl (Nat.le_of_ble_eq_true rfl)]
 have hadd := fun σ h hd => add_ok (B := B) k ys σ jb d L jbr M (tkm m) h hd hne.1 hm (by omega) hc (by omega) (by omega)
 generalize callY Tab.tb (k + 6) = cy at hadd ⊢
 have hen' := hen
 unfold Cell1 at hen'
 have hn := tnx_b hc m.talk
 have kb : Kept noX σ σ.bump.bump := (Kept.refl _ _).bump.bump
 have hb := h.kept0 kb
 have hdb := hd.kept kb (fun h => h)
 have hrc := hr.cell
 unfold Does gin
 rw [if_neg (show ¬ m.k = 7 by omega), if_neg (show ¬ m.k = 11 by omega)]
 have ht : taken L m.talk = (tnx L m.talk).n - 1 := rfl
 generalize taken L m.talk = n at *
 simp only [mc, z0]
 by_cases c1 : m.dat.length > 64
 · have d1 : decide ((m.dat.length : Int) > 64) = true := by simp; omega
   rw [if_pos c1]
   simp -implicitDefEqProofs (disch := first | exact nbf rfl | exact nbt rfl | (simp only [zN.down, reduceCtorEq] <;> omega) | omega) only [Tab.b27, d1, hen'.1, hen'.2, hrc.1, hrc.2, XOp.kind, AOp.kind, zU.down, simprocAttr]
   exact ⟨hb, hdb, kb.any⟩
 have d1 : decide ((m.dat.length : Int) > 64) = false := by simp; omega
 rw [if_neg c1]
 have w1 : IntKind.i64.wrap (n + 1) = n + 1 := wrap64 (by omega) (by omega)
 by_cases c2 : 1 ≤ m.seq ∧ m.seq ≤ n
 · have d2 : decide (m.seq ≥ 1) = true := by simpa using c2.1
   have d3 : decide (m.seq ≤ n) = true := by simpa using c2.2
   rw [if_pos c2]
   simp -implicitDefEqProofs (disch := first | exact nbf rfl | exact nbt rfl | (simp only [zN.down, reduceCtorEq] <;> omega) | omega) only [Tab.b27, d1, d2, d3, hen'.1, hen'.2, hrc.1, hrc.2, XOp.kind, AOp.kind, zU.down, simprocAttr]
   exact ⟨hb, hdb, kb.any⟩
 rw [if_neg c2]
 have cc : ∃ b, decide (m.seq ≥ 1) = b ∧ (b = true → decide (m.seq ≤ n) = false) := by
  refine ⟨_, rfl, fun h => ?_⟩
  simp only [decide_eq_true_eq] at h
  simp only [decide_eq_false_iff_not]
  exact fun h2 => c2 ⟨h, h2⟩
 obtain ⟨b, hb1, hb2⟩ := cc
 by_cases c3 : m.seq = n + 1
 rotate_left
 · have d4 : (m.seq != n + 1) = true := by simp [c3]
   rw [if_pos c3]
   cases b with
   | true =>
    have hb3 := hb2 rfl
    simp -implicitDefEqProofs (disch := first | exact nbf rfl | exact nbt rfl | (simp only [zN.down, reduceCtorEq] <;> omega) | omega) only [Tab.b27, d1, hb1, hb3, w1, d4, hen'.1, hen'.2, hrc.1, hrc.2, XOp.kind, AOp.kind, zU.down, simprocAttr]
    exact ⟨hb, hdb, kb.any⟩
   | false =>
    simp -implicitDefEqProofs (disch := first | exact nbf rfl | exact nbt rfl | (simp only [zN.down, reduceCtorEq] <;> omega) | omega) only [Tab.b27, d1, hb1, w1, d4, hen'.1, hen'.2, hrc.1, hrc.2, XOp.kind, AOp.kind, zU.down, simprocAttr]
    exact ⟨hb, hdb, kb.any⟩
 have d4 : (m.seq != n + 1) = false := by simp [c3]
 rw [if_neg (by simp [c3])]
 have d2 : decide (m.seq ≥ 1) = true := by simp; omega
 have d3 : decide (m.seq ≤ n) = false := by simp; omega
 obtain ⟨oo, gg, mi⟩ := hb.g
 have gg0 : σ.get g = some (.cells [.ptr jb 0, .mp oo, .sc (.int .i64 0)]) := by rw [St.get_bump, St.get_bump] at gg; exact gg
 have f1 := hadd σ.bump.bump hb.j hdb
 have hq : jadd M L jbr (tkm m) = jadd M L jbr ⟨m.talk, m.term, m.ep, m.seq, m.dat⟩ := rfl
 rw [hq] at f1 ⊢
 simp only [tkc, tkm] at f1
 generalize jadd M L jbr ⟨m.talk, m.term, m.ep, m.seq, m.dat⟩ = Q at *
 simp -implicitDefEqProofs (disch := first | exact nbf rfl | exact nbt rfl | (simp only [zN.down, reduceCtorEq] <;> omega) | omega) only [Tab.b27, d1, d2, d3, w1, d4, hen'.1, hen'.2, gg0, hrc.1, hrc.2, XOp.kind, AOp.kind, zU.down, simprocAttr]
 repeat first | apply w_fin | apply w_seq | apply w_block | apply w_reg | apply w_op | apply w_dop
 refine f1.mono ?_
 rintro ⟨_, σ2⟩ ⟨rfl, hj2, hd2, k2⟩
 dsimp only at hj2 hd2 k2
 have hg2 : GR σ2 g jb d Q.2.1 Q.2.2.1 S 0 := by
  refine ⟨⟨oo, k2.get _ _ (fun h => by rcases h with h | h; exact hne.2.1 h; exact hne.2.2 h) gg, mi.kept k2 ?_⟩, hj2⟩
  rintro (rfl | rfl)
  · obtain ⟨cs, g1, _⟩ := hdb
    obtain ⟨l, c, hm', _⟩ := mi
    rw [g1] at hm'; cases hm'
  · obtain ⟨v, g1, _⟩ := hb.j
    obtain ⟨l, c, hm', _⟩ := mi
    rw [g1] at hm'; cases hm'
 simp -implicitDefEqProofs (disch := first | exact nbf rfl | exact nbt rfl | (simp only [zN.down, reduceCtorEq] <;> omega) | omega) only [XOp.kind, AOp.kind, zU.down, simprocAttr]
 exact ⟨hg2, hd2, kb.any.trans k2⟩
end
end Go.Proofs.YtehdjkikcfeiaaaGreat.jn
namespace Go.Proofs.YtehdjkikcfeiaaaGreat.jn
open Go.Ab fr dk rg
set_option maxRecDepth 100000
set_option maxHeartbeats 8000000
set_option linter.unusedSimpArgs false
set_option linter.unusedVariables false
theorem do_ok {g jb d : Nat} {m : Ms} {o : Option (List UInt8)} {L : List Tk} {M : DM} {jbr br : Int} {S : List Sn} {rv : V} (k : Nat) (ys : YlF) (σ : St) (h : GR σ g jb d L jbr S br) (hd : DR σ d M) {B : Nat} (hm : M.Ok B) (hB : B ≤ 900000) (hen : Cell1 m.en) (hr : RP σ rv o) (ho : olen o ≤ 1099511627776) (hc : ∀ x ∈ L, tchk x = 0) (hL : L.length ≤ 900000) (hne : jb ≠ d ∧ g ≠ d ∧ g ≠ jb) (hk : 1000020 ≤ k) :
  W (callY Tab.tb (k + 8) ys 10 [.ptr g 0, .agg (mc m), rv] σ) fun r => r.1 = .tup [.agg (mc (gdo m o M L jbr S br).a), .sc (.int .i64 (gdo m o M L jbr S br).e)] ∧ GR r.2 g jb d (gdo m o M L jbr S br).L (gdo m o M L jbr S br).jbr (gdo m o M L jbr S br).S (gdo m o M L jbr S br).br ∧ DR r.2 d (gdo m o M L jbr S br).M ∧ Kept (fun o => o = d ∨ o = jb ∨ o = g) σ r.2 := by
 rw [s_call (af := Tab.b10) rfl (Nat.le_of_ble_eq_true rfl)]
 have hri := fun σ h => right_ok (k + 5) ys σ g jb d L jbr S br m.talk h hc (by omega) (by omega)
 have hab := fun σ a x => above_ok (k + 6) ys σ a x
 have hat := fun σ h hd hr => attach_ok (g := g) (jb := jb) (d := d) (m := m) (o := o) (L := L) (M := M) (jbr := jbr) (S := S) (rv := rv) (k + 5) ys σ h hd hen hr
 have hpu := fun σ h hd hr hkk => pull_ok (g := g) (jb := jb) (d := d) (m := m) (o := o) (L := L) (M := M) (jbr := jbr) (S := S) (rv := rv) (k + 4) ys σ h hd hen hr ho hkk (by omega)
 have hse := fun σ h hd hr hk9 => send_ok (g := g) (jb := jb) (d := d) (m := m) (o := o) (L := L) (M := M) (jbr := jbr) (S := S) (rv := rv) (B := B) k ys σ h hd hm hB hen hr hk9 hc hL hne hk
 have hcl := fun σ o F h => clonem_ok (k + 6) ys σ o F h
 generalize callY Tab.tb (k + 7) = cy at hri hab hat hpu hse hcl ⊢
 have hen' := hen
 unfold Cell1 at hen'
 have hrc := hr.cell
 obtain ⟨oo, gg, mi⟩ := h.g
 have kb : Kept noX σ σ.bump.bump := (Kept.refl _ _).bump.bump
 have hb := h.kept0 kb
 have hdb := hd.kept kb (fun h => h)
 unfold gdo
 by_cases cb : br = 0
 rotate_left
 · have d0 : (br != 0) = true := by simp [cb]
   rw [if_pos cb]
   simp only [mc, z0]
   simp -implicitDefEqProofs (disch := first | exact nbf rfl | exact nbt rfl | (simp only [zN.down, reduceCtorEq] <;> omega) | omega) only [Tab.b10, gg, dk.pnil, d0, hen'.1, hen'.2, hrc.1, hrc.2, XOp.kind, aArrAddr, AOp.kind, zP.down, zQ.down, zR.down, zS.down, simprocAttr]
   exact ⟨hb, hdb, kb.any⟩
 rw [if_neg (by simp [cb])]
 subst cb
 have d0 : ((0 : Int) != 0) = false := rfl
 have hgb : gbad m ↔ _ := Iff.rfl
 by_cases c1 : m.talk < 1
 · have d1 : decide (m.talk < 1) = true := by simpa using c1
   rw [if_pos (by unfold gbad; omega)]
   simp only [mc, z0]
   simp -implicitDefEqProofs (disch := first | exact nbf rfl | exact nbt rfl | (simp only [zN.down, reduceCtorEq] <;> omega) | omega) only [Tab.b10, gg, dk.pnil, d0, d1, hen'.1, hen'.2, hrc.1, hrc.2, XOp.kind, aArrAddr, AOp.kind, zP.down, zQ.down, zR.down, zS.down, simprocAttr]
   exact ⟨hb, hdb, kb.any⟩
 have d1 : decide (m.talk < 1) = false := by simpa using c1
 by_cases c2 : m.talk > 1048576
 · have d2 : decide (m.talk > 1048576) = true := by simpa using c2
   rw [if_pos (by unfold gbad; omega)]
   simp only [mc, z0]
   simp -implicitDefEqProofs (disch := first | exact nbf rfl | exact nbt rfl | (simp only [zN.down, reduceCtorEq] <;> omega) | omega) only [Tab.b10, gg, dk.pnil, d0, d1, d2, hen'.1, hen'.2, hrc.1, hrc.2, XOp.kind, aArrAddr, AOp.kind, zP.down, zQ.down, zR.down, zS.down, simprocAttr]
   exact ⟨hb, hdb, kb.any⟩
 have d2 : decide (m.talk > 1048576) = false := by simpa using c2
 by_cases c3 : m.term < 1
 · have d3 : decide (m.term < 1) = true := by simpa using c3
   rw [if_pos (by unfold gbad; omega)]
   simp only [mc, z0]
   simp -implicitDefEqProofs (disch := first | exact nbf rfl | exact nbt rfl | (simp only [zN.down, reduceCtorEq] <;> omega) | omega) only [Tab.b10, gg, dk.pnil, d0, d1, d2, d3, hen'.1, hen'.2, hrc.1, hrc.2, XOp.kind, aArrAddr, AOp.kind, zP.down, zQ.down, zR.down, zS.down, simprocAttr]
   exact ⟨hb, hdb, kb.any⟩
 have d3 : decide (m.term < 1) = false := by simpa using c3
 by_cases c4 : m.term > 1099511627776
 · have d4 : decide (m.term > 1099511627776) = true := by simpa using c4
   rw [if_pos (by unfold gbad; omega)]
   simp only [mc, z0]
   simp -implicitDefEqProofs (disch := first | exact nbf rfl | exact nbt rfl | (simp only [zN.down, reduceCtorEq] <;> omega) | omega) only [Tab.b10, gg, dk.pnil, d0, d1, d2, d3, d4, hen'.1, hen'.2, hrc.1, hrc.2, XOp.kind, aArrAddr, AOp.kind, zP.down, zQ.down, zR.down, zS.down, simprocAttr]
   exact ⟨hb, hdb, kb.any⟩
 have d4 : decide (m.term > 1099511627776) = false := by simpa using c4
 by_cases c5 : m.ep < 1
 · have d5 : decide (m.ep < 1) = true := by simpa using c5
   rw [if_pos (by unfold gbad; omega)]
   simp only [mc, z0]
   simp -implicitDefEqProofs (disch := first | exact nbf rfl | exact nbt rfl | (simp only [zN.down, reduceCtorEq] <;> omega) | omega) only [Tab.b10, gg, dk.pnil, d0, d1, d2, d3, d4, d5, hen'.1, hen'.2, hrc.1, hrc.2, XOp.kind, aArrAddr, AOp.kind, zP.down, zQ.down, zR.down, zS.down, simprocAttr]
   exact ⟨hb, hdb, kb.any⟩
 have d5 : decide (m.ep < 1) = false := by simpa using c5
 by_cases c6 : m.ep > 1048576
 · have d6 : decide (m.ep > 1048576) = true := by simpa using c6
   rw [if_pos (by unfold gbad; omega)]
   simp only [mc, z0]
   simp -implicitDefEqProofs (disch := first | exact nbf rfl | exact nbt rfl | (simp only [zN.down, reduceCtorEq] <;> omega) | omega) only [Tab.b10, gg, dk.pnil, d0, d1, d2, d3, d4, d5, d6, hen'.1, hen'.2, hrc.1, hrc.2, XOp.kind, aArrAddr, AOp.kind, zP.down, zQ.down, zR.down, zS.down, simprocAttr]
   exact ⟨hb, hdb, kb.any⟩
 have d6 : decide (m.ep > 1048576) = false := by simpa using c6
 by_cases c7 : m.fr < 0
 · have d7 : decide (m.fr < 0) = true := by simpa using c7
   rw [if_pos (by unfold gbad; omega)]
   simp only [mc, z0]
   simp -implicitDefEqProofs (disch := first | exact nbf rfl | exact nbt rfl | (simp only [zN.down, reduceCtorEq] <;> omega) | omega) only [Tab.b10, gg, dk.pnil, d0, d1, d2, d3, d4, d5, d6, d7, hen'.1, hen'.2, hrc.1, hrc.2, XOp.kind, aArrAddr, AOp.kind, zP.down, zQ.down, zR.down, zS.down, simprocAttr]
   exact ⟨hb, hdb, kb.any⟩
 have d7 : decide (m.fr < 0) = false := by simpa using c7
 by_cases c8 : m.fr ≥ 16
 · have d8 : decide (m.fr ≥ 16) = true := by simpa using c8
   rw [if_pos (by unfold gbad; omega)]
   simp only [mc, z0]
   simp -implicitDefEqProofs (disch := first | exact nbf rfl | exact nbt rfl | (simp only [zN.down, reduceCtorEq] <;> omega) | omega) only [Tab.b10, gg, dk.pnil, d0, d1, d2, d3, d4, d5, d6, d7, d8, hen'.1, hen'.2, hrc.1, hrc.2, XOp.kind, aArrAddr, AOp.kind, zP.down, zQ.down, zR.down, zS.down, simprocAttr]
   exact ⟨hb, hdb, kb.any⟩
 have d8 : decide (m.fr ≥ 16) = false := by simpa using c8
 by_cases ck : m.k = 7 ∨ m.k = 9 ∨ m.k = 11
 rotate_left
 · have e7 : (m.k == 7) = false := by simp; omega
   have e9 : (m.k == 9) = false := by simp; omega
   have e11 : (m.k == 11) = false := by simp; omega
   rw [if_pos (by unfold gbad; omega)]
   simp only [mc, z0]
   simp -implicitDefEqProofs (disch := first | exact nbf rfl | exact nbt rfl | (simp only [zN.down, reduceCtorEq] <;> omega) | omega) only [Tab.b10, gg, dk.pnil, d0, d1, d2, d3, d4, d5, d6, d7, d8, e7, e9, e11, hen'.1, hen'.2, hrc.1, hrc.2, XOp.kind, aArrAddr, AOp.kind, zP.down, zQ.down, zR.down, zS.down, simprocAttr]
   exact ⟨hb, hdb, kb.any⟩
 rw [if_neg (by unfold gbad; omega)]
 clear hgb
 simp only [mc]
 simp -implicitDefEqProofs (disch := first | exact nbf rfl | exact nbt rfl | (simp only [zN.down, reduceCtorEq] <;> omega) | omega) only [Tab.b10, gg, dk.pnil, d0, d1, d2, d3, d4, d5, d6, d7, d8, hen'.1, hen'.2, hrc.1, hrc.2, XOp.kind, aArrAddr, AOp.kind, zP.down, zQ.down, zR.down, zS.down, simprocAttr]
 refine w_fin (w_seq (w_block ?_))
 have hbd : ∀ f σ, XOp.run σ (.mkbound f 1) [.ptr g 0] = some (.fn (.func f) [.ptr g 0] [], σ) := fun _ _ => rfl
 refine W.mono (Q := fun r => ∃ (ρ : Env) (f : FuncId), r = ((.normal : Ex), ρ, σ.bump.bump) ∧ ((m.k = 7 ∧ f = 26) ∨ (m.k = 9 ∧ f = 27) ∨ (m.k = 11 ∧ f = 28)) ∧ ρ 0 = .ptr g 0 ∧ ρ 2 = rv ∧ ρ 4 = .agg (mc m) ∧ ρ 6 = .agg (mc z0) ∧ ρ 8 = .fn (.func f) [.ptr g 0] []) ?_ ?_
 · rcases ck with ck | ck | ck
   · have e7 : (m.k == 7) = true := by simp; omega
     simp -implicitDefEqProofs (disch := first | exact nbf rfl | exact nbt rfl | (simp only [zN.down, reduceCtorEq] <;> omega) | omega) only [e7, hbd, XOp.kind, AOp.kind, zU.down, simprocAttr]
     refine ⟨_, 26, rfl, .inl ⟨ck, rfl⟩, ?_, ?_, ?_, ?_, ?_⟩
     all_goals ((try simp only [mc, z0]); simp -implicitDefEqProofs (disch := first | exact nbf rfl | exact nbt rfl | (simp only [zN.down, reduceCtorEq] <;> omega) | omega) only [XOp.kind, AOp.kind, zU.down, simprocAttr]; done)
   · have e7 : (m.k == 7) = false := by simp; omega
     have e9 : (m.k == 9) = true := by simp; omega
     simp -implicitDefEqProofs (disch := first | exact nbf rfl | exact nbt rfl | (simp only [zN.down, reduceCtorEq] <;> omega) | omega) only [e7, e9, hbd, XOp.kind, AOp.kind, zU.down, simprocAttr]
     refine ⟨_, 27, rfl, .inr (.inl ⟨ck, rfl⟩), ?_, ?_, ?_, ?_, ?_⟩
     all_goals ((try simp only [mc, z0]); simp -implicitDefEqProofs (disch := first | exact nbf rfl | exact nbt rfl | (simp only [zN.down, reduceCtorEq] <;> omega) | omega) only [XOp.kind, AOp.kind, zU.down, simprocAttr]; done)
   · have e7 : (m.k == 7) = false := by simp; omega
     have e9 : (m.k == 9) = false := by simp; omega
     have e11 : (m.k == 11) = true := by simp; omega
     simp -implicitDefEqProofs (disch := first | exact nbf rfl | exact nbt rfl | (simp only [zN.down, reduceCtorEq] <;> omega) | omega) only [e7, e9, e11, hbd, XOp.kind, AOp.kind, zU.down, simprocAttr]
     refine ⟨_, 28, rfl, .inr (.inr ⟨ck, rfl⟩), ?_, ?_, ?_, ?_, ?_⟩
     all_goals ((try simp only [mc, z0]); simp -implicitDefEqProofs (disch := first | exact nbf rfl | exact nbt rfl | (simp only [zN.down, reduceCtorEq] <;> omega) | omega) only [XOp.kind, AOp.kind, zU.down, simprocAttr]; done)
 rintro _ ⟨ρ, f0, rfl, hf0, e0, e2, e4, e6, e8⟩
 have hdoes : ∀ σ', GR σ' g jb d L jbr S 0 → DR σ' d M → RP σ' rv o → W (cy ys f0 [.ptr g 0, .agg (mc m), .sc (.int .i64 (taken L m.talk)), rv] σ') (Does g jb d m o L M jbr S σ') := by
  intro σ' h1 h2 h3
  rcases hf0 with ⟨h7, rfl⟩ | ⟨hk9, rfl⟩ | ⟨h11, rfl⟩
  · exact hat σ' h1 h2 h3 h7
  · exact hse σ' h1 h2 h3 hk9
  · exact hpu σ' h1 h2 h3 h11
 have hK : IntKind.u8.wrap (m.k + 1) = m.k + 1 := by
  rcases ck with ck | ck | ck <;> rw [ck] <;> rfl
 clear hf0 ck hat hpu hse
 simp only [mc, z0] at e4 e6
 simp -implicitDefEqProofs (disch := first | exact nbf rfl | exact nbt rfl | (simp only [zN.down, reduceCtorEq] <;> omega) | omega) only [e0, e4, XOp.kind, AOp.kind, zU.down, simprocAttr]
 repeat first | apply w_fin | apply w_seq | apply w_block | apply w_reg | apply w_op | apply w_dop
 refine (hri _ hb).mono ?_
 rintro ⟨_, σ2⟩ ⟨rfl, k2⟩
 dsimp only at k2
 have k2 := kb.trans k2
 have hf1 := hdoes
 unfold Does at hf1
 generalize hG : gin m o M L jbr = G at *
 have hae : G.a.en = .sc .nilS := by rw [← hG]; exact gin_en _ _ _ _ _
 clear hdoes
 generalize gright L S m.talk = R at *
 generalize hn : taken L m.talk = n at *
 have kbb : Kept noX σ σ2.bump.bump := k2.bump.bump
 have kz : Kept noX σ σ2.bump.bump.bump.bump := kbb.bump.bump
 by_cases cf : tabv ⟨R.1, R.2, 0⟩ (tkm m)
 · have ha : ∀ σ, cy ys 30 [.agg [.sc (.int .i64 R.1), .sc (.int .i64 R.2)], .agg [.sc (.int .i64 m.term), .sc (.int .i64 m.ep)]] σ = some (.sc (.bool true), σ.bump.bump) := fun σ => by
    have := hab σ ⟨R.1, R.2, 0⟩ (tkm m)
    rw [decide_eq_true cf] at this
    exact this
   rw [if_pos cf]
   simp -implicitDefEqProofs (disch := first | exact nbf rfl | exact nbt rfl | (simp only [zN.down, reduceCtorEq] <;> omega) | omega) only [e0, e2, e4, e6, hK, ha, hen'.1, hen'.2, XOp.kind, AOp.kind, zU.down, simprocAttr]
   exact ⟨rfl, h.kept0 kz, hd.kept kz (fun h => h), kz.any⟩
 have ha : ∀ σ, cy ys 30 [.agg [.sc (.int .i64 R.1), .sc (.int .i64 R.2)], .agg [.sc (.int .i64 m.term), .sc (.int .i64 m.ep)]] σ = some (.sc (.bool false), σ.bump.bump) := fun σ => by
   have := hab σ ⟨R.1, R.2, 0⟩ (tkm m)
   rw [decide_eq_false cf] at this
   exact this
 rw [if_neg cf]
 have hz := h.kept0 kz
 have hdz := hd.kept kz (fun h => h)
 have f1 := hf1 _ hz hdz (hr.kept kz (fun _ _ h => h))
 clear hf1
 simp only [mc] at f1
 simp -implicitDefEqProofs (disch := first | exact nbf rfl | exact nbt rfl | (simp only [zN.down, reduceCtorEq] <;> omega) | omega) only [e0, e2, e4, e6, e8, hK, ha, hen'.1, hen'.2, XOp.kind, AOp.kind, zU.down, simprocAttr]
 repeat first | apply w_fin | apply w_seq | apply w_block | apply w_reg | apply w_op | apply w_dop
 refine f1.mono ?_
 rintro ⟨_, σ5⟩ ⟨rfl, hg5, hd5, k5⟩
 dsimp only at hg5 hd5 k5
 have k5 : Kept (fun o => o = d ∨ o = jb ∨ o = g) σ σ5 := kz.any.trans (k5.sub fun o h => by rcases h with h | h; exact .inl h; exact .inr (.inl h))
 obtain ⟨o5, g5, m5⟩ := hg5.g
 have lg5 := St.get_lt g5
 by_cases ce : G.e = 0
 rotate_left
 · have de : (G.e != 0) = true := by simpa using ce
   have g5b : σ5.bump.get g = some (.cells [.ptr jb 0, .mp o5, .sc (.int .i64 0)]) := by rw [St.get_bump]; exact g5
   rw [if_pos ce]
   simp -implicitDefEqProofs (disch := first | exact nbf rfl | exact nbt rfl | (simp only [zN.down, reduceCtorEq] <;> omega) | omega) only [e0, e6, hae, de, g5, g5b, XOp.kind, AOp.kind, zU.down, simprocAttr]
   have kg : Kept (· = g) σ5 (σ5.bump.put g (some (.cells [.ptr jb 0, .mp o5, .sc (.int .i64 G.e)]))) := Kept.put (X := (· = g)) ((Kept.refl _ _).bump) (.inl rfl) (by simp; omega) _
   refine ⟨rfl, ⟨⟨o5, get_put_self g5b, m5.kept kg ?_⟩, hg5.j.kept kg (fun h => hne.2.2 h.symm)⟩, hd5.kept kg (fun h => hne.2.1 h.symm), (k5.bump).put (.inl (.inr (.inr rfl))) (by simp; omega) _⟩
   rintro rfl
   obtain ⟨l, c, hm', _⟩ := m5
   rw [g5] at hm'; cases hm'
 · have de : (G.e != 0) = false := by simp [ce]
   have g5b : σ5.bump.get g = some (.cells [.ptr jb 0, .mp o5, .sc (.int .i64 0)]) := by rw [St.get_bump]; exact g5
   have m5b : MI σ5.bump o5 (look S) := m5.kept (Kept.refl noX σ5).bump (fun h => h)
   rw [if_neg (by simp [ce])]
   simp -implicitDefEqProofs (disch := first | exact nbf rfl | exact nbt rfl | (simp only [zN.down, reduceCtorEq] <;> omega) | omega) only [e0, e6, hae, de, g5, g5b, XOp.kind, AOp.kind, zU.down, simprocAttr]
   repeat first | apply w_fin | apply w_seq | apply w_block | apply w_reg | apply w_op | apply w_dop
   refine (hcl _ o5 _ m5b).mono ?_
   rintro ⟨_, σ6⟩ ⟨rfl, m6, k6⟩
   dsimp only at m6 k6
   have n6 : σ5.bump.n = σ5.n + 1 := by simp
   rw [n6] at m6
   have k56 : Kept noX σ5 σ6 := (Kept.refl noX σ5).bump.trans k6
   have g6 := k56.get _ _ (fun h => h) g5
   have lg6 := St.get_lt g6
   have hgo : σ5.n + 1 ≠ g := by omega
   have m7 : MI (σ6.put g (some (.cells [.ptr jb 0, .mp (σ5.n + 1), .sc (.int .i64 0)]))) (σ5.n + 1) (look S) := m6.kept (X := (· = g)) (Kept.put (X := (· = g)) (Kept.refl _ _) (.inl rfl) lg6 _) hgo
   have g7 : (σ6.put g (some (.cells [.ptr jb 0, .mp (σ5.n + 1), .sc (.int .i64 0)]))).get g = some (.cells [.ptr jb 0, .mp (σ5.n + 1), .sc (.int .i64 0)]) := get_put_self g6
   have k7 : Kept (· = g) σ6 (σ6.put g (some (.cells [.ptr jb 0, .mp (σ5.n + 1), .sc (.int .i64 0)]))) := Kept.put (X := (· = g)) (Kept.refl _ _) (.inl rfl) lg6 _
   obtain ⟨σ8, hx8, m8, k8⟩ := xupd m7 m.talk m.term m.ep
   simp -implicitDefEqProofs (disch := first | exact nbf rfl | exact nbt rfl | (simp only [zN.down, reduceCtorEq] <;> omega) | omega) only [n6, e0, g6, XOp.kind, AOp.kind, zU.down, simprocAttr]
   generalize hσ7 : σ6.put g (some (.cells [.ptr jb 0, .mp (σ5.n + 1), .sc (.int .i64 0)])) = σ7 at *
   simp -implicitDefEqProofs (disch := first | exact nbf rfl | exact nbt rfl | (simp only [zN.down, reduceCtorEq] <;> omega) | omega) only [e0, e4, e6, hae, g7, hx8, XOp.kind, AOp.kind, zU.down, simprocAttr]
   have k57 : Kept (fun o => o = g) σ5 σ7 := (k56.any (X := fun o => o = g)).trans k7
   have k58 : Kept (fun o => o = g) σ5 σ8 := ⟨Nat.le_trans k57.n k8.n, fun o z hx ho => k8.get o z (by have := St.get_lt ho; omega) (k57.get o z hx ho)⟩
   have m9 : MI σ8 (σ5.n + 1) (look (sees S m.talk m.term m.ep)) := by
    obtain ⟨l, c, q1, q2⟩ := m8
    exact ⟨l, c, q1, fun x => by rw [q2 x, look_sees]⟩
   exact ⟨rfl, ⟨⟨σ5.n + 1, k8.get _ _ (fun h => hgo h.symm) g7, m9⟩, hg5.j.kept k58 (fun h => hne.2.2 h.symm)⟩, hd5.kept k58 (fun h => hne.2.1 h.symm), k5.trans (k58.sub fun o h => .inr (.inr h))⟩
end Go.Proofs.YtehdjkikcfeiaaaGreat.jn
