/- Files: the document's disk. Files: the document's disk, its calls. Files: the document's crash. -/
import Derived.Test.YtehdjkikcfeiaaaGreatDiskU
namespace Go.Proofs.YtehdjkikcfeiaaaGreat.dk
open Go.Ab
set_option maxRecDepth 100000
set_option maxHeartbeats 8000000
set_option linter.unusedSimpArgs false
set_option linter.unusedVariables false
structure RFC (cs : List V) (off : Nat) (F : FM) (v : V) : Prop where
 rv : RV 3 v (F.loose.map chc)
 c0 : cs[off]? = some (.sc (.bool F.sure.there))
 c1 : cs[off + 1]? = some (.str F.sure.s)
 c2 : cs[off + 2]? = some v
theorem RFC.len {cs : List V} {off : Nat} {F : FM} {v : V} (h : RFC cs off F v) : off + 3 ≤ cs.length := by
 have := (List.getElem?_eq_some_iff.1 h.c2).1; omega
theorem RFC.take {cs : List V} {off : Nat} {F : FM} {v : V} (h : RFC cs off F v) : (cs.drop off).take 3 = [.sc (.bool F.sure.there), .str F.sure.s, v] := by
 have := take_cells (cs := cs) (es := [.sc (.bool F.sure.there), .str F.sure.s, v]) (k := off) (fun i hi => by
  have hi : i < 3 := hi
  have : i = 0 ∨ i = 1 ∨ i = 2 := by omega
  rcases this with rfl | rfl | rfl
  · exact h.c0
  · exact h.c1
  · exact h.c2) (.inl h.len)
 exact this
theorem RFC.take2 {cs : List V} {off : Nat} {F : FM} {v : V} (h : RFC cs off F v) : (cs.drop off).take 2 = [.sc (.bool F.sure.there), .str F.sure.s] := by
 have := congrArg (List.take 2) h.take
 rwa [List.take_take] at this
structure RC (cs : List V) (M : DM) : Prop where
 len : cs.length = 98
 p : cs[96]? = some (.sc (.int .i64 M.power))
 o : cs[97]? = some (.sc (.int .i64 M.ops))
 f : ∀ i, i < 32 → ∃ v, RFC cs (i * 3) (M.f i) v
def RR (σ : St) (d : Nat) (M : DM) : Prop := ∃ cs, σ.get d = some (.cells cs) ∧ RC cs M
theorem RR.kept {X : Nat → Prop} {σ σ' : St} {d : Nat} {M : DM} (h : RR σ d M) (k : Kept X σ σ') (hx : ¬ X d) : RR σ' d M := by
 obtain ⟨cs, h1, h2⟩ := h; exact ⟨cs, k.get _ _ hx h1, h2⟩
theorem RR.lt {σ : St} {d : Nat} {M : DM} (h : RR σ d M) : d < σ.n := by obtain ⟨cs, h1, _⟩ := h; exact St.get_lt h1
theorem rnew_ok (k : Nat) (ys : YlF) (σ : St) : W (callY Tab.tb (k + 1) ys 7 [] σ) fun r => r.1 = .ptr σ.n 0 ∧ RR r.2 σ.n D0 ∧ Kept noX σ r.2 ∧ r.2.n = σ.n + 1 := by
 rw [s_call (af := Tab.b7) rfl (Nat.le_of_ble_eq_true rfl)]
 generalize callY Tab.tb k = cy
 simp -implicitDefEqProofs (disch := first | exact nbf rfl | exact nbt rfl | (simp only [zN.down, reduceCtorEq] <;> omega) | omega) only [Tab.b7, XOp.kind, AOp.kind, zU.down, simprocAttr]
 refine ⟨⟨_, get_push_self, ⟨rfl, rfl, rfl, fun i hi => ⟨.sc .nilS, .nil, ?_, ?_, ?_⟩⟩⟩, ?_⟩
 all_goals first
  | (((repeat (first | refine Kept.push ?_ _ | refine Kept.bump ?_ | refine Kept.put ?_ (.inr (by omega)) (by first | omega | (simp only [St.n_put, St.n_push]; omega)) _)); first | exact Kept.refl _ _ | assumption); done)
  | (have : i = 0 ∨ i = 1 ∨ i = 2 ∨ i = 3 ∨ i = 4 ∨ i = 5 ∨ i = 6 ∨ i = 7 ∨ i = 8 ∨ i = 9 ∨ i = 10 ∨ i = 11 ∨ i = 12 ∨ i = 13 ∨ i = 14 ∨ i = 15 ∨ i = 16 ∨ i = 17 ∨ i = 18 ∨ i = 19 ∨ i = 20 ∨ i = 21 ∨ i = 22 ∨ i = 23 ∨ i = 24 ∨ i = 25 ∨ i = 26 ∨ i = 27 ∨ i = 28 ∨ i = 29 ∨ i = 30 ∨ i = 31 := by omega
     rcases this with rfl | rfl | rfl | rfl | rfl | rfl | rfl | rfl | rfl | rfl | rfl | rfl | rfl | rfl | rfl | rfl | rfl | rfl | rfl | rfl | rfl | rfl | rfl | rfl | rfl | rfl | rfl | rfl | rfl | rfl | rfl | rfl <;> rfl)
def s2c (x : S2) : List V := [.sc (.bool x.there), .str x.s]
theorem rdone_ok (k : Nat) (ys : YlF) (σ : St) (x : S2) (c : Ch) (hc : Okc x c) : callY Tab.tb (k + 1) ys 37 [.agg (s2c x), .agg (chc c)] σ = some (.agg (s2c (done x c)), σ.bump.bump.bump) := by
 rw [s_call (af := Tab.b37) rfl (Nat.le_of_ble_eq_true rfl)]
 generalize callY Tab.tb k = cy
 rcases hc with ⟨hc, hc2⟩ | ⟨hc, ht, hn0, hn1⟩ | hc
 · have e1 := beq_iff_eq.2 hc
   have sa : aStr .add x.s c.s = some (.str (x.s ++ c.s)) := by simp only [aStr]; rw [if_neg (by omega)]
   have s1 : done x c = ⟨true, x.s ++ c.s⟩ := by unfold done; rw [if_pos hc]
   simp -implicitDefEqProofs (disch := first | exact nbf rfl | exact nbt rfl | (simp only [zN.down, reduceCtorEq] <;> omega) | omega) only [Tab.b37, s2c, chc, e1, aBin, sa, s1, XOp.kind, AOp.kind, zU.down, simprocAttr]
 · have e1 : (c.k == 1) = false := by simp; omega
   have e2 := beq_iff_eq.2 hc
   obtain ⟨n, hn⟩ := Int.eq_ofNat_of_zero_le hn0
   have s1 : done x c = ⟨true, x.s.take n⟩ := by unfold done; rw [if_neg (by omega), if_pos hc, hn]; rfl
   have sl := sl_to (u := x.s) (n := n) (by omega)
   simp -implicitDefEqProofs (disch := first | exact nbf rfl | exact nbt rfl | (simp only [zN.down, reduceCtorEq] <;> omega) | omega) only [Tab.b37, s2c, chc, e1, e2, hn, sl, s1, XOp.kind, AOp.kind, zU.down, simprocAttr]
 · have e1 : (c.k == 1) = false := by simp; omega
   have e2 : (c.k == 2) = false := by simp; omega
   have s1 : done x c = ⟨false, []⟩ := by unfold done; rw [if_neg (by omega), if_neg (by omega)]
   simp -implicitDefEqProofs (disch := first | exact nbf rfl | exact nbt rfl | (simp only [zN.down, reduceCtorEq] <;> omega) | omega) only [Tab.b37, s2c, chc, e1, e2, s1, XOp.kind, AOp.kind, zU.down, simprocAttr]
theorem rseen_ok (k : Nat) (ys : YlF) (σ : St) (F : FM) (v : V) (hv : RV 3 v (F.loose.map chc)) (hF : F.Ok) (hl : F.loose.length ≤ 1000000) (hk : 2000000 ≤ k) :
  W (callY Tab.tb (k + 2) ys 79 [.agg [.sc (.bool F.sure.there), .str F.sure.s, v]] σ) fun r => r.1 = .agg (s2c F.seen) ∧ Kept noX σ r.2 := by
 rw [s_call (af := Tab.b79) rfl (Nat.le_of_ble_eq_true rfl)]
 have hdone := fun σ x c h => rdone_ok k ys σ x c h
 generalize callY Tab.tb (k + 1) = cy at hdone ⊢
 have hcell := hv.cell
 have vlen := hv.len
 have vsize := hv.size
 rw [List.length_map] at vlen
 simp -implicitDefEqProofs (disch := first | exact nbf rfl | exact nbt rfl | (simp only [zN.down, reduceCtorEq] <;> omega) | omega) only [Tab.b79, hcell.1, hcell.2, XOp.kind, AOp.kind, zU.down, simprocAttr]
 repeat first | apply w_fin | apply w_seq | apply w_block | apply w_reg | apply w_op | apply w_dop
 refine W.mono (Q := fun r => ∃ (ρ : Env) (σ' : St), r = ((.exit 0 : Ex), ρ, σ') ∧ ρ 2 = .agg [.sc (.bool false), .str []] ∧ ρ 3 = .agg (s2c F.seen) ∧ Kept noX σ σ') ?_ ?_
 · refine w_loop (fun m ρ σ' => ∃ j : Nat, m = F.loose.length - j ∧ j ≤ F.loose.length ∧ ρ 1 = .agg [.sc (.bool F.sure.there), .str F.sure.s, v] ∧ ρ 2 = .agg [.sc (.bool false), .str []] ∧ ρ 3 = .agg (s2c (seenOf F.sure (F.loose.take j))) ∧ ρ 4 = .sc (.int .i64 j) ∧ Kept noX σ σ') F.loose.length (by omega) ?_ ?_
   · refine ⟨0, rfl, Nat.zero_le _, ?_, ?_, ?_, ?_, ?_⟩
     all_goals first | rfl | (((repeat (first | refine Kept.push ?_ _ | refine Kept.bump ?_ | refine Kept.put ?_ (.inr (by omega)) (by first | omega | (simp only [St.n_put, St.n_push]; omega)) _)); first | exact Kept.refl _ _ | assumption); done) | (simp -implicitDefEqProofs (disch := first | exact nbf rfl | exact nbt rfl | (simp only [zN.down, reduceCtorEq] <;> omega) | omega) only [XOp.kind, AOp.kind, zU.down, simprocAttr]; done) | (simp -implicitDefEqProofs (disch := first | exact nbf rfl | exact nbt rfl | (simp only [zN.down, reduceCtorEq] <;> omega) | omega) only [XOp.kind, AOp.kind, zU.down, simprocAttr]; rfl)
   · rintro m ρ σ' ⟨j, hm, hj, e1, e2, e3, e4, hk'⟩
     by_cases hjl : j < F.loose.length
     · have c1 : decide ((j : Int) < (F.loose.length : Int)) = true := by simpa using hjl
       obtain ⟨a1, a2, a3⟩ := hv.at (i := j) (by simpa using hjl)
       simp only [List.getElem_map] at a3
       have hd := fun σ => hdone σ _ _ (okl_at hjl hF.ok)
       have hsn : seenOf F.sure (F.loose.take (j + 1)) = done (seenOf F.sure (F.loose.take j)) F.loose[j] := by rw [take_succ' hjl, seenOf_append]
       have w1 : IntKind.i64.wrap ((j : Int) + 1) = (j : Int) + 1 := wrap64 (by omega) (by omega)
       simp only [chc, s2c] at a3 hd e3
       simp -implicitDefEqProofs (disch := first | exact nbf rfl | exact nbt rfl | (simp only [zN.down, reduceCtorEq] <;> omega) | omega) only [c1, e1, e2, e3, e4, vlen, vsize, a1, a2, a3, hd, w1, s2c, XOp.kind, AOp.kind, zU.down, simprocAttr]
       refine ⟨F.loose.length - (j + 1), by omega, j + 1, rfl, hjl, ?_, by simp, ?_⟩
       · rw [hsn]
       · exact hk'.bump.bump.bump
     · have c1 : decide ((j : Int) < (F.loose.length : Int)) = false := by simpa using hjl
       have : j = F.loose.length := by omega
       subst this
       rw [List.take_length] at e3
       simp -implicitDefEqProofs (disch := first | exact nbf rfl | exact nbt rfl | (simp only [zN.down, reduceCtorEq] <;> omega) | omega) only [c1, e1, e4, vlen, XOp.kind, AOp.kind, zU.down, simprocAttr]
       refine ⟨_, _, rfl, ?_, ?_, hk'⟩
       · simp -implicitDefEqProofs (disch := first | exact nbf rfl | exact nbt rfl | (simp only [zN.down, reduceCtorEq] <;> omega) | omega) only [e2, XOp.kind, AOp.kind, zU.down, simprocAttr]
       · simp -implicitDefEqProofs (disch := first | exact nbf rfl | exact nbt rfl | (simp only [zN.down, reduceCtorEq] <;> omega) | omega) only [e3, XOp.kind, AOp.kind, zU.down, simprocAttr]
         rfl
 · rintro _ ⟨ρ, σ', rfl, e2, e3, hk'⟩
   simp only [s2c] at e3
   simp -implicitDefEqProofs (disch := first | exact nbf rfl | exact nbt rfl | (simp only [zN.down, reduceCtorEq] <;> omega) | omega) only [e2, e3, s2c, XOp.kind, AOp.kind, zU.down, simprocAttr]
   exact hk'
theorem rsee_ok (k : Nat) (ys : YlF) (σ : St) (d : Nat) (M : DM) (f : Int) (h : RR σ d M) {B : Nat} (hm : M.Ok B) (hB : B ≤ 1000000) (hk : 2000000 ≤ k) :
  W (callY Tab.tb (k + 3) ys 71 [.ptr d 0, .sc (.int .i64 f)] σ) fun r => r.1 = .agg (s2c (M.see f)) ∧ Kept noX σ r.2 := by
 obtain ⟨cs, g, hc⟩ := h
 rw [s_call (af := Tab.b71) rfl (Nat.le_of_ble_eq_true rfl)]
 have hseen := fun σ F v hv hF hl => rseen_ok k ys σ F v hv hF hl hk
 generalize callY Tab.tb (k + 2) = cy at hseen ⊢
 by_cases h1 : f < 0
 · have c2 : decide (f < 0) = true := by simpa using h1
   have e : M.see f = ⟨false, []⟩ := by unfold DM.see; rw [if_neg (by omega)]
   simp -implicitDefEqProofs (disch := first | exact nbf rfl | exact nbt rfl | (simp only [zN.down, reduceCtorEq] <;> omega) | omega) only [Tab.b71, c2, e, s2c, XOp.kind, AOp.kind, zU.down, simprocAttr]
   exact (Kept.refl _ _).bump
 have c2 : decide (f < 0) = false := by simpa using h1
 by_cases h2 : 32 ≤ f
 · have c3 : decide (f ≥ 32) = true := by simpa using h2
   have e : M.see f = ⟨false, []⟩ := by unfold DM.see; rw [if_neg (by omega)]
   simp -implicitDefEqProofs (disch := first | exact nbf rfl | exact nbt rfl | (simp only [zN.down, reduceCtorEq] <;> omega) | omega) only [Tab.b71, c2, c3, e, s2c, XOp.kind, AOp.kind, zU.down, simprocAttr]
   exact (Kept.refl _ _).bump
 have c3 : decide (f ≥ 32) = false := by simpa using h2
 obtain ⟨i, rfl⟩ := Int.eq_ofNat_of_zero_le (by omega : 0 ≤ f)
 have hi : i < 32 := by omega
 obtain ⟨v, hv⟩ := hc.f i hi
 have ha := arr_ok (o := d) (off := 0) (len := 32) (sz := 3) hi
 have l1 : (i * 3 + 3 ≤ cs.length) = True := by simp only [eq_iff_iff, iff_true]; exact hv.len
 have t1 := hv.take
 have hfm := hm.f i hi
 have e : M.see (i : Int) = (M.f i).seen := by rw [see_in (by omega) (by omega), Int.toNat_natCast]
 simp -implicitDefEqProofs (disch := first | exact nbf rfl | exact nbt rfl | (simp only [zN.down, reduceCtorEq] <;> omega) | omega) only [Tab.b71, c2, c3, ha, g, l1, t1, XOp.kind, aEqV, AOp.kind, zP.down, zQ.down, zR.down, zS.down, simprocAttr]
 repeat first | apply w_fin | apply w_seq | apply w_block | apply w_reg | apply w_op | apply w_dop
 refine (hseen σ.bump (M.f i) v hv.rv hfm.1 (by omega)).mono ?_
 rintro ⟨_, σ2⟩ ⟨rfl, k2⟩
 rw [e]
 simp -implicitDefEqProofs (disch := first | exact nbf rfl | exact nbt rfl | (simp only [zN.down, reduceCtorEq] <;> omega) | omega) only [s2c, XOp.kind, AOp.kind, zU.down, simprocAttr]
 exact (Kept.refl noX σ).bump.trans k2
theorem RC.step {cs : List V} {M : DM} (h : RC cs M) (p o : Int) : RC ((cs.set 96 (.sc (.int .i64 p))).set 97 (.sc (.int .i64 o))) { M with power := p, ops := o } := by
 have hl := h.len
 refine ⟨by simp [hl], ?_, ?_, fun i hi => ?_⟩
 · rw [List.getElem?_set_ne (by omega), set_self (by omega)]
 · rw [set_self (by simp; omega)]
 · obtain ⟨v, hv⟩ := h.f i hi
   have key : ∀ j, j < 96 → ((cs.set 96 (.sc (.int .i64 p))).set 97 (.sc (.int .i64 o)))[j]? = cs[j]? := fun j hj => by
    rw [List.getElem?_set_ne (by omega), List.getElem?_set_ne (by omega)]
   exact ⟨v, hv.rv, by rw [key _ (by omega)]; exact hv.c0, by rw [key _ (by omega)]; exact hv.c1, by rw [key _ (by omega)]; exact hv.c2⟩
theorem RC.ops {cs : List V} {M : DM} (h : RC cs M) (o : Int) : RC (cs.set 97 (.sc (.int .i64 o))) { M with ops := o } := by
 have := h.step M.power o
 rwa [set_same h.p] at this
theorem RC.power {cs : List V} {M : DM} (h : RC cs M) (p : Int) : RC (cs.set 96 (.sc (.int .i64 p))) { M with power := p } := by
 have := h.step p M.ops
 rwa [set_same (by rw [List.getElem?_set_ne (by omega)]; exact h.o)] at this
theorem RC.upd {cs cs' : List V} {M : DM} (h : RC cs M) {i : Nat} (hi : i < 32) {F : FM} {v : V} (hl : cs'.length = cs.length) (hf : RFC cs' (i * 3) F v) (ho : ∀ j, j < i * 3 ∨ i * 3 + 3 ≤ j → cs'[j]? = cs[j]?) : RC cs' (M.upd i F) := by
 refine ⟨hl.trans h.len, (ho _ (by omega)).trans h.p, (ho _ (by omega)).trans h.o, fun j hj => ?_⟩
 simp only [DM.upd, Int.toNat_natCast]
 by_cases he : j = i
 · subst he; rw [if_pos rfl]; exact ⟨v, hf⟩
 · rw [if_neg he]
   obtain ⟨w, hw⟩ := h.f j hj
   exact ⟨w, hw.rv, (ho _ (by omega)).trans hw.c0, (ho _ (by omega)).trans hw.c1, (ho _ (by omega)).trans hw.c2⟩
theorem rstep_ok (k : Nat) (ys : YlF) (σ : St) (d : Nat) (M : DM) (f e : Int) (h : RR σ d M) {B : Nat} (hm : M.Ok B) (hB : B ≤ 1000000) :
  W (callY Tab.tb (k + 1) ys 78 [.ptr d 0, .sc (.int .i64 f), .sc (.int .i64 e)] σ) fun r => r.1 = .sc (.int .i64 (M.step f e).2) ∧ RR r.2 d (M.step f e).1 ∧ Kept (· = d) σ r.2 ∧ r.2.n = σ.n := by
 obtain ⟨cs, g, hc⟩ := h
 rw [s_call (af := Tab.b78) rfl (Nat.le_of_ble_eq_true rfl)]
 generalize callY Tab.tb k = cy
 have hp := hc.p
 have ho := hc.o
 have hl := hc.len
 have hd := St.get_lt g
 unfold DM.step
 by_cases h0 : M.power = 0
 · have c1 : (M.power == 0) = true := by simpa using h0
   simp -implicitDefEqProofs (disch := first | exact nbf rfl | exact nbt rfl | (simp only [zN.down, reduceCtorEq] <;> omega) | omega) only [Tab.b78, g, hp, c1, h0, XOp.kind, AOp.kind, zU.down, simprocAttr]
   exact ⟨⟨cs, g, hc⟩, Kept.refl _ _⟩
 have c1 : (M.power == 0) = false := by simpa using h0
 by_cases h1 : f < 0
 · have c2 : decide (f < 0) = true := by simpa using h1
   simp -implicitDefEqProofs (disch := first | exact nbf rfl | exact nbt rfl | (simp only [zN.down, reduceCtorEq] <;> omega) | omega) only [Tab.b78, g, hp, c1, h0, c2, h1, true_or, XOp.kind, AOp.kind, zU.down, simprocAttr]
   exact ⟨⟨cs, g, hc⟩, Kept.refl _ _⟩
 have c2 : decide (f < 0) = false := by simpa using h1
 by_cases h2 : 32 ≤ f
 · have c3 : decide (f ≥ 32) = true := by simpa using h2
   simp -implicitDefEqProofs (disch := first | exact nbf rfl | exact nbt rfl | (simp only [zN.down, reduceCtorEq] <;> omega) | omega) only [Tab.b78, g, hp, c1, h0, c2, c3, h1, h2, or_true, XOp.kind, AOp.kind, zU.down, simprocAttr]
   exact ⟨⟨cs, g, hc⟩, Kept.refl _ _⟩
 have c3 : decide (f ≥ 32) = false := by simpa using h2
 by_cases h3 : e = 0
 · subst h3
   have o0 := hm.o0
   have o1 := hm.o1
   have p1 := hm.p1
   have l0 : (96 + 1 ≤ cs.length) = True := by simp only [eq_iff_iff, iff_true]; omega
   have l1 : (97 + 1 ≤ cs.length) = True := by simp only [eq_iff_iff, iff_true]; omega
   have w1 : IntKind.i64.wrap (M.ops + 1) = M.ops + 1 := wrap64 (by omega) (by omega)
   by_cases h4 : 0 < M.power
   · have c4 : decide (M.power > 0) = true := by simpa using h4
     have w2 : IntKind.i64.wrap (M.power - 1) = M.power - 1 := wrap64 (by omega) (by omega)
     have ho' : (cs.set 96 (.sc (.int .i64 (M.power - 1))))[97]? = some (.sc (.int .i64 M.ops)) := by rw [List.getElem?_set_ne (by omega)]; exact ho
     simp -implicitDefEqProofs (disch := first | exact nbf rfl | exact nbt rfl | (simp only [zN.down, reduceCtorEq] <;> omega) | omega) only [Tab.b78, g, hp, ho, ho', c1, h0, c2, c3, c4, h1, h2, h4, or_self, l0, l1, w1, w2, XOp.kind, AOp.kind, zU.down, simprocAttr]
     exact ⟨⟨_, get_put_self (get_put_self g), hc.step _ _⟩, ((Kept.refl (· = d) σ).put (.inl rfl) hd _).put (.inl rfl) hd _⟩
   · have c4 : decide (M.power > 0) = false := by simpa using h4
     simp -implicitDefEqProofs (disch := first | exact nbf rfl | exact nbt rfl | (simp only [zN.down, reduceCtorEq] <;> omega) | omega) only [Tab.b78, g, hp, ho, c1, h0, c2, c3, c4, h1, h2, h4, or_self, l0, l1, w1, XOp.kind, AOp.kind, zU.down, simprocAttr]
     exact ⟨⟨_, get_put_self g, hc.ops _⟩, (Kept.refl (· = d) σ).put (.inl rfl) hd _⟩
 · have c4 : (e != 0) = true := by simpa using h3
   simp -implicitDefEqProofs (disch := first | exact nbf rfl | exact nbt rfl | (simp only [zN.down, reduceCtorEq] <;> omega) | omega) only [Tab.b78, g, hp, c1, h0, c2, c3, c4, h1, h2, h3, or_self, XOp.kind, AOp.kind, zU.down, simprocAttr]
   exact ⟨⟨cs, g, hc⟩, Kept.refl _ _⟩
end Go.Proofs.YtehdjkikcfeiaaaGreat.dk
namespace Go.Proofs.YtehdjkikcfeiaaaGreat.dk
open Go.Ab
set_option maxRecDepth 100000
set_option maxHeartbeats 8000000
set_option linter.unusedSimpArgs false
set_option linter.unusedVariables false
theorem rchg_ok (k : Nat) (ys : YlF) (σ σ' : St) (d : Nat) (M : DM) (f : Int) (c : Ch) (e : Int) (h : RR σ d M) {B : Nat} (hm : M.Ok B) (hB : B ≤ 1000000) (hk : Kept noX σ σ') (he : e = M.may f c) :
  W (callY Tab.tb (k + 1) ys 78 [.ptr d 0, .sc (.int .i64 f), .sc (.int .i64 e)] σ') fun r => ∃ x, r.1 = .sc (.int .i64 x) ∧ ((x = 0 ∧ ∃ (i : Nat) (cs : List V) (v : V), f = i ∧ i < 32 ∧ r.2.get d = some (.cells cs) ∧ cs[i * 3 + 2]? = some v ∧ i * 3 + 2 + 1 ≤ cs.length ∧ W (aAppend false 3 32 r.2 (.sc .nilS) v) fun q => ∃ v1 σ3, q = (v1, σ3) ∧ W (aAppend false 3 32 σ3 v1 (.vs .exact 3 1 [.sc (.int .i64 c.k), .str c.s, .sc (.int .i64 c.n)])) fun q2 => ∃ v2 σ4, q2 = (v2, σ4) ∧ σ4.get d = some (.cells cs) ∧ Cell1 v2 ∧ (M.change f c).2 = 0 ∧ RR (σ4.put d (some (.cells (cs.set (i * 3 + 2) v2)))) d (M.change f c).1 ∧ Kept (· = d) σ (σ4.put d (some (.cells (cs.set (i * 3 + 2) v2))))) ∨ (x ≠ 0 ∧ x = (M.change f c).2 ∧ RR r.2 d (M.change f c).1 ∧ Kept (· = d) σ r.2)) := by
 subst he
 refine (rstep_ok k ys σ' d M f _ (h.kept hk fun h => h) hm hB).mono ?_
 rintro ⟨_, σ2⟩ ⟨rfl, h1, h2, h3⟩
 have hk2 : Kept (· = d) σ σ2 := hk.any.trans h2
 refine ⟨_, rfl, ?_⟩
 unfold DM.change
 dsimp only at h1 h2 h3 ⊢
 by_cases hz : (M.step f (M.may f c)).2 = 0
 · left
   obtain ⟨_, f0, f1, f2⟩ := step_0 hz
   obtain ⟨i, rfl⟩ := Int.eq_ofNat_of_zero_le f0
   have hi : i < 32 := by omega
   obtain ⟨cs, g, hc⟩ := h1
   obtain ⟨v, hv⟩ := hc.f i hi
   have hfi : (M.step (i : Int) (M.may i c)).1.f i = M.f i := by rw [step_f]
   rw [hfi] at hv
   have hfm := hm.f i hi
   have hl := hc.len
   refine ⟨hz, i, cs, v, rfl, hi, g, hv.c2, by omega, ?_⟩
   have hn := hk2.n
   refine (grow_ok (lo := σ.n) (es := []) .nil hv.rv hn (by unfold roomB; simp; omega) (by unfold roomB; simp; omega)).mono ?_
   rintro ⟨v1, σ3⟩ ⟨ho1, g1⟩
   refine ⟨v1, σ3, rfl, ?_⟩
   have hrv : RV 3 (.vs .exact 3 1 (chc c)) [chc c] := RV.vs (own := .exact) (es := [chc c]) (by simp [chc]) (by simp [chc, V.oneCell])
   refine (grow_ok ho1 hrv (by have h := g1.n; dsimp only at h ⊢; omega) (by unfold roomB; simp; omega) (by unfold roomB; simp; omega)).mono ?_
   rintro ⟨v2, σ4⟩ ⟨ho2, g2⟩
   dsimp only at ho2 g2
   have g4 := g2.cells (g1.cells g)
   have hv2 : RV 3 v2 (((M.f i).add c).loose.map chc) := by have := ho2.rv; simpa [FM.add] using this
   have hd4 := St.get_lt g4
   refine ⟨v2, σ4, rfl, g4, hv2.cell, ?_, ?_, ?_⟩
   · rw [if_pos hz]
   · rw [if_pos hz, Int.toNat_natCast]
     refine ⟨_, get_put_self g4, hc.upd hi (v := v2) (by simp) ⟨hv2, ?_, ?_, ?_⟩ fun j hj => ?_⟩
     · rw [List.getElem?_set_ne (by omega)]; exact hv.c0
     · rw [List.getElem?_set_ne (by omega)]; exact hv.c1
     · rw [set_self (by omega)]
     · rw [List.getElem?_set_ne (by omega)]
   · exact (g2.keptX (g1.keptX hk2 (Nat.le_refl _)) (Nat.le_refl _)).put (.inl rfl) hd4 _
 · right
   rw [if_neg hz]
   exact ⟨hz, rfl, h1, hk2⟩
theorem rchange_ok (k : Nat) (ys : YlF) (σ : St) (d : Nat) (M : DM) (f : Int) (c : Ch) (h : RR σ d M) {B : Nat} (hm : M.Ok B) (hB : B ≤ 1000000) (hk : 2000000 ≤ k) (hs : (c.s.length : Int) ≤ 9223372036854775807) :
  W (callY Tab.tb (k + 4) ys 51 [.ptr d 0, .sc (.int .i64 f), .agg (chc c)] σ) fun r => r.1 = .sc (.int .i64 (M.change f c).2) ∧ RR r.2 d (M.change f c).1 ∧ Kept (· = d) σ r.2 := by
 rw [s_call (af := Tab.b51) rfl (Nat.le_of_ble_eq_true rfl)]
 have hsee := fun σ h => rsee_ok k ys σ d M f h hm hB hk
 have hchg := fun σ' e hk' he => rchg_ok (k + 2) ys σ σ' d M f c e h hm hB hk' he
 generalize callY Tab.tb (k + 3) = cy at hsee hchg ⊢
 have hsl := file_len hm f
 have w1 : IntKind.i64.wrap (1048576 - ((M.see f).s.length : Int)) = 1048576 - ((M.see f).s.length : Int) := wrap64 (by omega) (by omega)
 have hb : RR σ.bump d M := h.kept (Kept.refl noX σ).bump (fun h => h)
 have bs : aBslice 3 1 [.sc (.int .i64 0), .str [], .sc (.int .i64 0)] [(0, 3, .agg [.sc (.int .i64 c.k), .str c.s, .sc (.int .i64 c.n)])] = some (.vs .exact 3 1 [.sc (.int .i64 c.k), .str c.s, .sc (.int .i64 c.n)]) := rfl
 simp -implicitDefEqProofs (disch := first | exact nbf rfl | exact nbt rfl | (simp only [zN.down, reduceCtorEq] <;> omega) | omega) only [Tab.b51, chc, XOp.kind, AOp.kind, zU.down, simprocAttr]
 repeat first | apply w_fin | apply w_seq | apply w_block | apply w_reg | apply w_op | apply w_dop
 refine (hsee σ.bump hb).mono ?_
 rintro ⟨_, σ2⟩ ⟨rfl, k2⟩
 have kk : Kept noX σ σ2.bump := ((Kept.refl noX σ).bump.trans k2).bump
 by_cases q1 : c.k = 1
 · have c1 := beq_iff_eq.2 q1
   have hmay : M.may f c = if 1048576 - ((M.see f).s.length : Int) < c.s.length then 8 else 0 := by unfold DM.may; rw [if_pos q1]
   rw [hmay] at hchg
   by_cases hf : 1048576 - ((M.see f).s.length : Int) < c.s.length
   · have c2 : decide ((c.s.length : Int) > 1048576 - ((M.see f).s.length : Int)) = true := by simpa using hf
     have f2 := hchg σ2.bump 8 kk (by rw [if_pos hf])
     simp -implicitDefEqProofs (disch := first | exact nbf rfl | exact nbt rfl | (simp only [zN.down, reduceCtorEq] <;> omega) | omega) only [s2c, c1, c2, w1, XOp.kind, AOp.kind, zU.down, simprocAttr]
     repeat first | apply w_fin | apply w_seq | apply w_block | apply w_reg | apply w_op | apply w_dop
     refine f2.mono ?_
     rintro ⟨_, σ3⟩ ⟨x, rfl, ⟨rfl, i, cs, v, rfl, hi, g, hv, hl, hw⟩ | ⟨c0, rfl, h2, h3⟩⟩
     · have ha := arr_ok (o := d) (off := 0) (len := 32) (sz := 3) hi
       have l1 : (i * 3 + 2 + 1 ≤ cs.length) = True := by simp only [eq_iff_iff, iff_true]; exact hl
       dsimp only at g hw
       simp -implicitDefEqProofs (disch := first | exact nbf rfl | exact nbt rfl | (simp only [zN.down, reduceCtorEq] <;> omega) | omega) only [ha, g, hv, XOp.kind, aEqV, AOp.kind, zP.down, zQ.down, zR.down, zS.down, simprocAttr]
       repeat first | apply w_fin | apply w_seq | apply w_block | apply w_reg | apply w_op | apply w_dop
       refine hw.mono ?_
       rintro _ ⟨v1, σ4, rfl, hw2⟩
       simp -implicitDefEqProofs (disch := first | exact nbf rfl | exact nbt rfl | (simp only [zN.down, reduceCtorEq] <;> omega) | omega) only [bs, XOp.kind, AOp.kind, zU.down, simprocAttr]
       repeat first | apply w_fin | apply w_seq | apply w_block | apply w_reg | apply w_op | apply w_dop
       refine hw2.mono ?_
       rintro _ ⟨v2, σ5, rfl, g5, hc2, hz, h3, h4⟩
       simp -implicitDefEqProofs (disch := first | exact nbf rfl | exact nbt rfl | (simp only [zN.down, reduceCtorEq] <;> omega) | omega) only [ha, g5, l1, hc2.1, hc2.2, hz, XOp.kind, aEqV, AOp.kind, zP.down, zQ.down, zR.down, zS.down, simprocAttr]
       exact ⟨h3, h4⟩
     · have cz := beq_eq_false_iff_ne.2 c0
       simp -implicitDefEqProofs (disch := first | exact nbf rfl | exact nbt rfl | (simp only [zN.down, reduceCtorEq] <;> omega) | omega) only [cz, XOp.kind, AOp.kind, zU.down, simprocAttr]
       exact ⟨h2, h3⟩
   · have c2 : decide ((c.s.length : Int) > 1048576 - ((M.see f).s.length : Int)) = false := by simpa using hf
     have f2 := hchg σ2.bump 0 kk (by rw [if_neg hf])
     simp -implicitDefEqProofs (disch := first | exact nbf rfl | exact nbt rfl | (simp only [zN.down, reduceCtorEq] <;> omega) | omega) only [s2c, c1, c2, w1, XOp.kind, AOp.kind, zU.down, simprocAttr]
     repeat first | apply w_fin | apply w_seq | apply w_block | apply w_reg | apply w_op | apply w_dop
     refine f2.mono ?_
     rintro ⟨_, σ3⟩ ⟨x, rfl, ⟨rfl, i, cs, v, rfl, hi, g, hv, hl, hw⟩ | ⟨c0, rfl, h2, h3⟩⟩
     · have ha := arr_ok (o := d) (off := 0) (len := 32) (sz := 3) hi
       have l1 : (i * 3 + 2 + 1 ≤ cs.length) = True := by simp only [eq_iff_iff, iff_true]; exact hl
       dsimp only at g hw
       simp -implicitDefEqProofs (disch := first | exact nbf rfl | exact nbt rfl | (simp only [zN.down, reduceCtorEq] <;> omega) | omega) only [ha, g, hv, XOp.kind, aEqV, AOp.kind, zP.down, zQ.down, zR.down, zS.down, simprocAttr]
       repeat first | apply w_fin | apply w_seq | apply w_block | apply w_reg | apply w_op | apply w_dop
       refine hw.mono ?_
       rintro _ ⟨v1, σ4, rfl, hw2⟩
       simp -implicitDefEqProofs (disch := first | exact nbf rfl | exact nbt rfl | (simp only [zN.down, reduceCtorEq] <;> omega) | omega) only [bs, XOp.kind, AOp.kind, zU.down, simprocAttr]
       repeat first | apply w_fin | apply w_seq | apply w_block | apply w_reg | apply w_op | apply w_dop
       refine hw2.mono ?_
       rintro _ ⟨v2, σ5, rfl, g5, hc2, hz, h3, h4⟩
       simp -implicitDefEqProofs (disch := first | exact nbf rfl | exact nbt rfl | (simp only [zN.down, reduceCtorEq] <;> omega) | omega) only [ha, g5, l1, hc2.1, hc2.2, hz, XOp.kind, aEqV, AOp.kind, zP.down, zQ.down, zR.down, zS.down, simprocAttr]
       exact ⟨h3, h4⟩
     · have cz := beq_eq_false_iff_ne.2 c0
       simp -implicitDefEqProofs (disch := first | exact nbf rfl | exact nbt rfl | (simp only [zN.down, reduceCtorEq] <;> omega) | omega) only [cz, XOp.kind, AOp.kind, zU.down, simprocAttr]
       exact ⟨h2, h3⟩
 · have c1 := beq_eq_false_iff_ne.2 q1
   have hmay : M.may f c = if (M.see f).there = false then 4 else if c.k = 2 ∧ (c.n < 0 ∨ ((M.see f).s.length : Int) < c.n) then 5 else 0 := by unfold DM.may; rw [if_neg q1]
   rw [hmay] at hchg
   cases ht : (M.see f).there with
   | false =>
    rw [ht] at hchg
    have f2 := hchg σ2.bump 4 kk (by rw [if_pos rfl])
    simp -implicitDefEqProofs (disch := first | exact nbf rfl | exact nbt rfl | (simp only [zN.down, reduceCtorEq] <;> omega) | omega) only [s2c, c1, ht, XOp.kind, AOp.kind, zU.down, simprocAttr]
    repeat first | apply w_fin | apply w_seq | apply w_block | apply w_reg | apply w_op | apply w_dop
    refine f2.mono ?_
    rintro ⟨_, σ3⟩ ⟨x, rfl, ⟨rfl, i, cs, v, rfl, hi, g, hv, hl, hw⟩ | ⟨c0, rfl, h2, h3⟩⟩
    · have ha := arr_ok (o := d) (off := 0) (len := 32) (sz := 3) hi
      have l1 : (i * 3 + 2 + 1 ≤ cs.length) = True := by simp only [eq_iff_iff, iff_true]; exact hl
      dsimp only at g hw
      simp -implicitDefEqProofs (disch := first | exact nbf rfl | exact nbt rfl | (simp only [zN.down, reduceCtorEq] <;> omega) | omega) only [ha, g, hv, XOp.kind, aEqV, AOp.kind, zP.down, zQ.down, zR.down, zS.down, simprocAttr]
      repeat first | apply w_fin | apply w_seq | apply w_block | apply w_reg | apply w_op | apply w_dop
      refine hw.mono ?_
      rintro _ ⟨v1, σ4, rfl, hw2⟩
      simp -implicitDefEqProofs (disch := first | exact nbf rfl | exact nbt rfl | (simp only [zN.down, reduceCtorEq] <;> omega) | omega) only [bs, XOp.kind, AOp.kind, zU.down, simprocAttr]
      repeat first | apply w_fin | apply w_seq | apply w_block | apply w_reg | apply w_op | apply w_dop
      refine hw2.mono ?_
      rintro _ ⟨v2, σ5, rfl, g5, hc2, hz, h3, h4⟩
      simp -implicitDefEqProofs (disch := first | exact nbf rfl | exact nbt rfl | (simp only [zN.down, reduceCtorEq] <;> omega) | omega) only [ha, g5, l1, hc2.1, hc2.2, hz, XOp.kind, aEqV, AOp.kind, zP.down, zQ.down, zR.down, zS.down, simprocAttr]
      exact ⟨h3, h4⟩
    · have cz := beq_eq_false_iff_ne.2 c0
      simp -implicitDefEqProofs (disch := first | exact nbf rfl | exact nbt rfl | (simp only [zN.down, reduceCtorEq] <;> omega) | omega) only [cz, XOp.kind, AOp.kind, zU.down, simprocAttr]
      exact ⟨h2, h3⟩
   | true =>
    rw [ht] at hchg
    by_cases q2 : c.k = 2
    · have c2 := beq_iff_eq.2 q2
      by_cases q3 : c.n < 0
      · have c3 : decide (c.n < 0) = true := by simpa using q3
        have f2 := hchg σ2.bump 5 kk (by rw [if_neg (by simp), if_pos ⟨q2, .inl q3⟩])
        simp -implicitDefEqProofs (disch := first | exact nbf rfl | exact nbt rfl | (simp only [zN.down, reduceCtorEq] <;> omega) | omega) only [s2c, c1, ht, c2, c3, XOp.kind, AOp.kind, zU.down, simprocAttr]
        repeat first | apply w_fin | apply w_seq | apply w_block | apply w_reg | apply w_op | apply w_dop
        refine f2.mono ?_
        rintro ⟨_, σ3⟩ ⟨x, rfl, ⟨rfl, i, cs, v, rfl, hi, g, hv, hl, hw⟩ | ⟨c0, rfl, h2, h3⟩⟩
        · have ha := arr_ok (o := d) (off := 0) (len := 32) (sz := 3) hi
          have l1 : (i * 3 + 2 + 1 ≤ cs.length) = True := by simp only [eq_iff_iff, iff_true]; exact hl
          dsimp only at g hw
          simp -implicitDefEqProofs (disch := first | exact nbf rfl | exact nbt rfl | (simp only [zN.down, reduceCtorEq] <;> omega) | omega) only [ha, g, hv, XOp.kind, aEqV, AOp.kind, zP.down, zQ.down, zR.down, zS.down, simprocAttr]
          repeat first | apply w_fin | apply w_seq | apply w_block | apply w_reg | apply w_op | apply w_dop
          refine hw.mono ?_
          rintro _ ⟨v1, σ4, rfl, hw2⟩
          simp -implicitDefEqProofs (disch := first | exact nbf rfl | exact nbt rfl | (simp only [zN.down, reduceCtorEq] <;> omega) | omega) only [bs, XOp.kind, AOp.kind, zU.down, simprocAttr]
          repeat first | apply w_fin | apply w_seq | apply w_block | apply w_reg | apply w_op | apply w_dop
          refine hw2.mono ?_
          rintro _ ⟨v2, σ5, rfl, g5, hc2, hz, h3, h4⟩
          simp -implicitDefEqProofs (disch := first | exact nbf rfl | exact nbt rfl | (simp only [zN.down, reduceCtorEq] <;> omega) | omega) only [ha, g5, l1, hc2.1, hc2.2, hz, XOp.kind, aEqV, AOp.kind, zP.down, zQ.down, zR.down, zS.down, simprocAttr]
          exact ⟨h3, h4⟩
        · have cz := beq_eq_false_iff_ne.2 c0
          simp -implicitDefEqProofs (disch := first | exact nbf rfl | exact nbt rfl | (simp only [zN.down, reduceCtorEq] <;> omega) | omega) only [cz, XOp.kind, AOp.kind, zU.down, simprocAttr]
          exact ⟨h2, h3⟩
      · have c3 : decide (c.n < 0) = false := by simpa using q3
        by_cases q4 : ((M.see f).s.length : Int) < c.n
        · have c4 : decide (c.n > ((M.see f).s.length : Int)) = true := by simpa using q4
          have f2 := hchg σ2.bump 5 kk (by rw [if_neg (by simp), if_pos ⟨q2, .inr q4⟩])
          simp -implicitDefEqProofs (disch := first | exact nbf rfl | exact nbt rfl | (simp only [zN.down, reduceCtorEq] <;> omega) | omega) only [s2c, c1, ht, c2, c3, c4, XOp.kind, AOp.kind, zU.down, simprocAttr]
          repeat first | apply w_fin | apply w_seq | apply w_block | apply w_reg | apply w_op | apply w_dop
          refine f2.mono ?_
          rintro ⟨_, σ3⟩ ⟨x, rfl, ⟨rfl, i, cs, v, rfl, hi, g, hv, hl, hw⟩ | ⟨c0, rfl, h2, h3⟩⟩
          · have ha := arr_ok (o := d) (off := 0) (len := 32) (sz := 3) hi
            have l1 : (i * 3 + 2 + 1 ≤ cs.length) = True := by simp only [eq_iff_iff, iff_true]; exact hl
            dsimp only at g hw
            simp -implicitDefEqProofs (disch := first | exact nbf rfl | exact nbt rfl | (simp only [zN.down, reduceCtorEq] <;> omega) | omega) only [ha, g, hv, XOp.kind, aEqV, AOp.kind, zP.down, zQ.down, zR.down, zS.down, simprocAttr]
            repeat first | apply w_fin | apply w_seq | apply w_block | apply w_reg | apply w_op | apply w_dop
            refine hw.mono ?_
            rintro _ ⟨v1, σ4, rfl, hw2⟩
            simp -implicitDefEqProofs (disch := first | exact nbf rfl | exact nbt rfl | (simp only [zN.down, reduceCtorEq] <;> omega) | omega) only [bs, XOp.kind, AOp.kind, zU.down, simprocAttr]
            repeat first | apply w_fin | apply w_seq | apply w_block | apply w_reg | apply w_op | apply w_dop
            refine hw2.mono ?_
            rintro _ ⟨v2, σ5, rfl, g5, hc2, hz, h3, h4⟩
            simp -implicitDefEqProofs (disch := first | exact nbf rfl | exact nbt rfl | (simp only [zN.down, reduceCtorEq] <;> omega) | omega) only [ha, g5, l1, hc2.1, hc2.2, hz, XOp.kind, aEqV, AOp.kind, zP.down, zQ.down, zR.down, zS.down, simprocAttr]
            exact ⟨h3, h4⟩
          · have cz := beq_eq_false_iff_ne.2 c0
            simp -implicitDefEqProofs (disch := first | exact nbf rfl | exact nbt rfl | (simp only [zN.down, reduceCtorEq] <;> omega) | omega) only [cz, XOp.kind, AOp.kind, zU.down, simprocAttr]
            exact ⟨h2, h3⟩
        · have c4 : decide (c.n > ((M.see f).s.length : Int)) = false := by simpa using q4
          have f2 := hchg σ2.bump 0 kk (by rw [if_neg (by simp), if_neg (by omega)])
          simp -implicitDefEqProofs (disch := first | exact nbf rfl | exact nbt rfl | (simp only [zN.down, reduceCtorEq] <;> omega) | omega) only [s2c, c1, ht, c2, c3, c4, XOp.kind, AOp.kind, zU.down, simprocAttr]
          repeat first | apply w_fin | apply w_seq | apply w_block | apply w_reg | apply w_op | apply w_dop
          refine f2.mono ?_
          rintro ⟨_, σ3⟩ ⟨x, rfl, ⟨rfl, i, cs, v, rfl, hi, g, hv, hl, hw⟩ | ⟨c0, rfl, h2, h3⟩⟩
          · have ha := arr_ok (o := d) (off := 0) (len := 32) (sz := 3) hi
            have l1 : (i * 3 + 2 + 1 ≤ cs.length) = True := by simp only [eq_iff_iff, iff_true]; exact hl
            dsimp only at g hw
            simp -implicitDefEqProofs (disch := first | exact nbf rfl | exact nbt rfl | (simp only [zN.down, reduceCtorEq] <;> omega) | omega) only [ha, g, hv, XOp.kind, aEqV, AOp.kind, zP.down, zQ.down, zR.down, zS.down, simprocAttr]
            repeat first | apply w_fin | apply w_seq | apply w_block | apply w_reg | apply w_op | apply w_dop
            refine hw.mono ?_
            rintro _ ⟨v1, σ4, rfl, hw2⟩
            simp -implicitDefEqProofs (disch := first | exact nbf rfl | exact nbt rfl | (simp only [zN.down, reduceCtorEq] <;> omega) | omega) only [bs, XOp.kind, AOp.kind, zU.down, simprocAttr]
            repeat first | apply w_fin | apply w_seq | apply w_block | apply w_reg | apply w_op | apply w_dop
            refine hw2.mono ?_
            rintro _ ⟨v2, σ5, rfl, g5, hc2, hz, h3, h4⟩
            simp -implicitDefEqProofs (disch := first | exact nbf rfl | exact nbt rfl | (simp only [zN.down, reduceCtorEq] <;> omega) | omega) only [ha, g5, l1, hc2.1, hc2.2, hz, XOp.kind, aEqV, AOp.kind, zP.down, zQ.down, zR.down, zS.down, simprocAttr]
            exact ⟨h3, h4⟩
          · have cz := beq_eq_false_iff_ne.2 c0
            simp -implicitDefEqProofs (disch := first | exact nbf rfl | exact nbt rfl | (simp only [zN.down, reduceCtorEq] <;> omega) | omega) only [cz, XOp.kind, AOp.kind, zU.down, simprocAttr]
            exact ⟨h2, h3⟩
    · have c2 := beq_eq_false_iff_ne.2 q2
      have f2 := hchg σ2.bump 0 kk (by rw [if_neg (by simp), if_neg (by omega)])
      simp -implicitDefEqProofs (disch := first | exact nbf rfl | exact nbt rfl | (simp only [zN.down, reduceCtorEq] <;> omega) | omega) only [s2c, c1, ht, c2, XOp.kind, AOp.kind, zU.down, simprocAttr]
      repeat first | apply w_fin | apply w_seq | apply w_block | apply w_reg | apply w_op | apply w_dop
      refine f2.mono ?_
      rintro ⟨_, σ3⟩ ⟨x, rfl, ⟨rfl, i, cs, v, rfl, hi, g, hv, hl, hw⟩ | ⟨c0, rfl, h2, h3⟩⟩
      · have ha := arr_ok (o := d) (off := 0) (len := 32) (sz := 3) hi
        have l1 : (i * 3 + 2 + 1 ≤ cs.length) = True := by simp only [eq_iff_iff, iff_true]; exact hl
        dsimp only at g hw
        simp -implicitDefEqProofs (disch := first | exact nbf rfl | exact nbt rfl | (simp only [zN.down, reduceCtorEq] <;> omega) | omega) only [ha, g, hv, XOp.kind, aEqV, AOp.kind, zP.down, zQ.down, zR.down, zS.down, simprocAttr]
        repeat first | apply w_fin | apply w_seq | apply w_block | apply w_reg | apply w_op | apply w_dop
        refine hw.mono ?_
        rintro _ ⟨v1, σ4, rfl, hw2⟩
        simp -implicitDefEqProofs (disch := first | exact nbf rfl | exact nbt rfl | (simp only [zN.down, reduceCtorEq] <;> omega) | omega) only [bs, XOp.kind, AOp.kind, zU.down, simprocAttr]
        repeat first | apply w_fin | apply w_seq | apply w_block | apply w_reg | apply w_op | apply w_dop
        refine hw2.mono ?_
        rintro _ ⟨v2, σ5, rfl, g5, hc2, hz, h3, h4⟩
        simp -implicitDefEqProofs (disch := first | exact nbf rfl | exact nbt rfl | (simp only [zN.down, reduceCtorEq] <;> omega) | omega) only [ha, g5, l1, hc2.1, hc2.2, hz, XOp.kind, aEqV, AOp.kind, zP.down, zQ.down, zR.down, zS.down, simprocAttr]
        exact ⟨h3, h4⟩
      · have cz := beq_eq_false_iff_ne.2 c0
        simp -implicitDefEqProofs (disch := first | exact nbf rfl | exact nbt rfl | (simp only [zN.down, reduceCtorEq] <;> omega) | omega) only [cz, XOp.kind, AOp.kind, zU.down, simprocAttr]
        exact ⟨h2, h3⟩
theorem rsync_ok (k : Nat) (ys : YlF) (σ : St) (d : Nat) (M : DM) (f : Int) (h : RR σ d M) {B : Nat} (hm : M.Ok B) (hB : B ≤ 1000000) (hk : 2000000 ≤ k) :
  W (callY Tab.tb (k + 3) ys 52 [.ptr d 0, .sc (.int .i64 f)] σ) fun r => r.1 = .sc (.int .i64 (M.sync f).2) ∧ RR r.2 d (M.sync f).1 ∧ Kept (· = d) σ r.2 := by
 rw [s_call (af := Tab.b52) rfl (Nat.le_of_ble_eq_true rfl)]
 have hstep := rstep_ok (k + 1) ys σ d M f 0 h hm hB
 have hseen := fun σ F v hv hF hl => rseen_ok k ys σ F v hv hF hl hk
 generalize callY Tab.tb (k + 2) = cy at hstep hseen ⊢
 simp -implicitDefEqProofs (disch := first | exact nbf rfl | exact nbt rfl | (simp only [zN.down, reduceCtorEq] <;> omega) | omega) only [Tab.b52, XOp.kind, AOp.kind, zU.down, simprocAttr]
 repeat first | apply w_fin | apply w_seq | apply w_block | apply w_reg | apply w_op | apply w_dop
 refine hstep.mono ?_
 rintro ⟨_, σ2⟩ ⟨rfl, h1, h2, h3⟩
 unfold DM.sync
 dsimp only at h1 h2 h3 ⊢
 by_cases hz : (M.step f 0).2 = 0
 · have c1 := beq_iff_eq.2 hz
   rw [if_pos hz]
   obtain ⟨_, f0, f1, _⟩ := step_0 hz
   obtain ⟨i, rfl⟩ := Int.eq_ofNat_of_zero_le f0
   have hi : i < 32 := by omega
   obtain ⟨cs, g, hc⟩ := h1
   obtain ⟨v, hv⟩ := hc.f i hi
   have hfi : (M.step (i : Int) 0).1.f i = M.f i := by rw [step_f]
   rw [hfi] at hv
   have hfm := hm.f i hi
   have hlen := hc.len
   have ha := arr_ok (o := d) (off := 0) (len := 32) (sz := 3) hi
   have l1 : (i * 3 + 3 ≤ cs.length) = True := by simp only [eq_iff_iff, iff_true]; exact hv.len
   have t1 := hv.take
   simp -implicitDefEqProofs (disch := first | exact nbf rfl | exact nbt rfl | (simp only [zN.down, reduceCtorEq] <;> omega) | omega) only [c1, ha, g, l1, t1, XOp.kind, aEqV, AOp.kind, zP.down, zQ.down, zR.down, zS.down, simprocAttr]
   repeat first | apply w_fin | apply w_seq | apply w_block | apply w_reg | apply w_op | apply w_dop
   refine (hseen σ2 (M.f i) v hv.rv hfm.1 (by omega)).mono ?_
   rintro ⟨_, σ3⟩ ⟨rfl, k3⟩
   dsimp only at k3
   have g3 := k3.get _ _ (fun h => h) g
   have hd := St.get_lt g3
   simp -implicitDefEqProofs (disch := first | exact nbf rfl | exact nbt rfl | (simp only [zN.down, reduceCtorEq] <;> omega) | omega) only [ha, g3, l1, s2c, hz, XOp.kind, aEqV, AOp.kind, zP.down, zQ.down, zR.down, zS.down, simprocAttr]
   have key : ∀ j, j < 3 → (splice cs (i * 3) [.sc (.bool (M.f i).seen.there), .str (M.f i).seen.s, .sc .nilS])[i * 3 + j]? = ([.sc (.bool (M.f i).seen.there), .str (M.f i).seen.s, .sc .nilS] : List V)[j]? := by
    intro j hj
    rw [splice_at (by simp; omega), if_pos (by simp; omega)]
    congr 1; omega
   refine ⟨⟨_, get_put_self g3, hc.upd hi (F := ⟨(M.f i).seen, []⟩) (v := .sc .nilS) (splice_len (by simp; omega)) ⟨.nil, key 0 (by omega), key 1 (by omega), key 2 (by omega)⟩ fun j hj => ?_⟩, ?_⟩
   · rw [splice_at (by simp; omega), if_neg (by simp; omega)]
   · exact (h2.trans k3.any).put (.inl rfl) hd _
 · have c1 := beq_eq_false_iff_ne.2 hz
   rw [if_neg hz]
   simp -implicitDefEqProofs (disch := first | exact nbf rfl | exact nbt rfl | (simp only [zN.down, reduceCtorEq] <;> omega) | omega) only [c1, XOp.kind, AOp.kind, zU.down, simprocAttr]
   exact ⟨h1, h2⟩
theorem rread_ok (k : Nat) (ys : YlF) (σ : St) (d : Nat) (M : DM) (f : Int) (h : RR σ d M) {B : Nat} (hm : M.Ok B) (hB : B ≤ 1000000) (hk : 2000000 ≤ k) :
  W (callY Tab.tb (k + 4) ys 47 [.ptr d 0, .sc (.int .i64 f)] σ) fun r => r.1 = .tup [.str (M.read f).1, .sc (.int .i64 (M.read f).2)] ∧ Kept noX σ r.2 := by
 rw [s_call (af := Tab.b47) rfl (Nat.le_of_ble_eq_true rfl)]
 have hsee := rsee_ok k ys σ d M f h hm hB hk
 obtain ⟨cs, g, hc⟩ := h
 generalize callY Tab.tb (k + 3) = cy at hsee ⊢
 have hp := hc.p
 unfold DM.read
 by_cases h0 : M.power = 0
 · have c1 := beq_iff_eq.2 h0
   simp -implicitDefEqProofs (disch := first | exact nbf rfl | exact nbt rfl | (simp only [zN.down, reduceCtorEq] <;> omega) | omega) only [Tab.b47, g, hp, c1, h0, XOp.kind, AOp.kind, zU.down, simprocAttr]
   exact Kept.refl _ _
 have c1 := beq_eq_false_iff_ne.2 h0
 by_cases h1 : f < 0
 · have c2 : decide (f < 0) = true := by simpa using h1
   simp -implicitDefEqProofs (disch := first | exact nbf rfl | exact nbt rfl | (simp only [zN.down, reduceCtorEq] <;> omega) | omega) only [Tab.b47, g, hp, c1, h0, c2, h1, true_or, XOp.kind, AOp.kind, zU.down, simprocAttr]
   exact Kept.refl _ _
 have c2 : decide (f < 0) = false := by simpa using h1
 by_cases h2 : 32 ≤ f
 · have c3 : decide (f ≥ 32) = true := by simpa using h2
   simp -implicitDefEqProofs (disch := first | exact nbf rfl | exact nbt rfl | (simp only [zN.down, reduceCtorEq] <;> omega) | omega) only [Tab.b47, g, hp, c1, h0, c2, c3, h1, h2, or_true, XOp.kind, AOp.kind, zU.down, simprocAttr]
   exact Kept.refl _ _
 have c3 : decide (f ≥ 32) = false := by simpa using h2
 simp -implicitDefEqProofs (disch := first | exact nbf rfl | exact nbt rfl | (simp only [zN.down, reduceCtorEq] <;> omega) | omega) only [Tab.b47, g, hp, c1, h0, c2, c3, h1, h2, or_self, XOp.kind, AOp.kind, zU.down, simprocAttr]
 repeat first | apply w_fin | apply w_seq | apply w_block | apply w_reg | apply w_op | apply w_dop
 refine hsee.mono ?_
 rintro ⟨_, σ2⟩ ⟨rfl, k2⟩
 dsimp only at k2
 cases ht : (M.see f).there with
 | false =>
  simp -implicitDefEqProofs (disch := first | exact nbf rfl | exact nbt rfl | (simp only [zN.down, reduceCtorEq] <;> omega) | omega) only [s2c, ht, XOp.kind, AOp.kind, zU.down, simprocAttr]
  exact k2.bump
 | true =>
  simp -implicitDefEqProofs (disch := first | exact nbf rfl | exact nbt rfl | (simp only [zN.down, reduceCtorEq] <;> omega) | omega) only [s2c, ht, XOp.kind, AOp.kind, zU.down, simprocAttr]
  exact k2.bump
end Go.Proofs.YtehdjkikcfeiaaaGreat.dk
namespace Go.Proofs.YtehdjkikcfeiaaaGreat.dk
open Go.Ab
set_option maxRecDepth 100000
set_option maxHeartbeats 8000000
set_option linter.unusedSimpArgs false
set_option linter.unusedVariables false
theorem RC.file {cs : List V} {M : DM} (h : RC cs M) {i : Nat} (hi : i < 32) (F : FM) (hF : F.loose = []) (x : S2) (hs : F.sure = x) :
  RC (splice cs (i * 3) [.sc (.bool x.there), .str x.s, .sc .nilS]) (M.upd i F) := by
 have hl := h.len
 have key : ∀ j, j < 3 → (splice cs (i * 3) [.sc (.bool x.there), .str x.s, .sc .nilS])[i * 3 + j]? = ([.sc (.bool x.there), .str x.s, .sc .nilS] : List V)[j]? := by
  intro j hj
  rw [splice_at (by simp; omega), if_pos (by simp; omega)]
  congr 1; omega
 refine h.upd hi (splice_len (by simp; omega)) (v := .sc .nilS) ⟨by rw [hF]; exact .nil, ?_, ?_, ?_⟩ fun j hj => ?_
 · rw [hs]; exact key 0 (by omega)
 · rw [hs]; exact key 1 (by omega)
 · exact key 2 (by omega)
 · rw [splice_at (by simp; omega), if_neg (by simp; omega)]
theorem rcrash_ok (k : Nat) (ys : YlF) (σ : St) (d : Nat) (M : DM) (kv : V) (keep : List Int) (torn : Int) (h : RR σ d M) (hkv : RV 1 kv (keep.map kc)) {B : Nat} (hm : M.Ok B) (hB : B ≤ 1000000) (hk : 2000000 ≤ k) :
  W (callY Tab.tb (k + 2) ys 16 [.ptr d 0, kv, .sc (.int .i64 torn)] σ) fun r => r.1 = .tup [] ∧ RR r.2 d (M.crash keep torn) ∧ Kept (· = d) σ r.2 := by
 rw [s_call (af := Tab.b16) rfl (Nat.le_of_ble_eq_true rfl)]
 have hdone := fun σ x c h => rdone_ok k ys σ x c h
 generalize callY Tab.tb (k + 1) = cy at hdone ⊢
 have klen := hkv.len
 have ksize := hkv.size
 rw [List.length_map] at klen
 simp -implicitDefEqProofs (disch := first | exact nbf rfl | exact nbt rfl | (simp only [zN.down, reduceCtorEq] <;> omega) | omega) only [Tab.b16, XOp.kind, AOp.kind, zU.down, simprocAttr]
 repeat first | apply w_fin | apply w_seq | apply w_block | apply w_reg | apply w_op | apply w_dop
 refine W.mono (Q := fun r => ∃ (ρ : Env) (σ' : St), r = ((.exit 0 : Ex), ρ, σ') ∧ ρ 0 = .ptr d 0 ∧ RR σ' d (M.part keep torn 32) ∧ Kept (· = d) σ σ') ?_ ?_
 · refine w_loop (fun m ρ σ' => ∃ i : Nat, m = 32 - i ∧ i ≤ 32 ∧ ρ 0 = .ptr d 0 ∧ ρ 1 = kv ∧ ρ 2 = .sc (.int .i64 torn) ∧ ρ 6 = .sc (.int .i64 i) ∧ RR σ' d (M.part keep torn i) ∧ Kept (· = d) σ σ') 32 (by omega) ?_ ?_
   · refine ⟨0, rfl, by omega, ?_, ?_, ?_, ?_, ?_, Kept.refl _ _⟩
     · simp -implicitDefEqProofs (disch := first | exact nbf rfl | exact nbt rfl | (simp only [zN.down, reduceCtorEq] <;> omega) | omega) only [XOp.kind, AOp.kind, zU.down, simprocAttr]
     · simp -implicitDefEqProofs (disch := first | exact nbf rfl | exact nbt rfl | (simp only [zN.down, reduceCtorEq] <;> omega) | omega) only [XOp.kind, AOp.kind, zU.down, simprocAttr]
     · simp -implicitDefEqProofs (disch := first | exact nbf rfl | exact nbt rfl | (simp only [zN.down, reduceCtorEq] <;> omega) | omega) only [XOp.kind, AOp.kind, zU.down, simprocAttr]
     · simp -implicitDefEqProofs (disch := first | exact nbf rfl | exact nbt rfl | (simp only [zN.down, reduceCtorEq] <;> omega) | omega) only [XOp.kind, AOp.kind, zU.down, simprocAttr]
     · have : M.part keep torn 0 = M := by unfold DM.part; simp
       rw [this]; exact h
   · rintro m ρ σ' ⟨i, hm', hi, e0, e1, e2, e6, hd, hkept⟩
     by_cases hl : i < 32
     · have c1 : decide ((i : Int) < 32) = true := by simp; omega
       obtain ⟨cs, g, hc⟩ := hd
       obtain ⟨v, hv⟩ := hc.f i hl
       have hfi : (M.part keep torn i).f i = M.f i := by unfold DM.part; simp
       rw [hfi] at hv
       have hfm := hm.f i hl
       have ha := arr_ok (o := d) (off := 0) (len := 32) (sz := 3) hl
       have hlen := hc.len
       have l1 : (i * 3 + 3 ≤ cs.length) = True := by simp only [eq_iff_iff, iff_true]; omega
       have l2 : (i * 3 + 2 ≤ cs.length) = True := by simp only [eq_iff_iff, iff_true]; omega
       have t1 := hv.take2
       have v2 := hv.c2
       have hcell := hv.rv.cell
       have vlen := hv.rv.len
       have vsize := hv.rv.size
       rw [List.length_map] at vlen
       have hdl := St.get_lt g
       have hn : ∃ n : Nat, (min (max ((keep[i]?).getD 0) 0) ((M.f i).loose.length : Int)) = n ∧ n ≤ (M.f i).loose.length := ⟨(min (max ((keep[i]?).getD 0) 0) ((M.f i).loose.length : Int)).toNat, by omega, by omega⟩
       obtain ⟨n, hn, hnl⟩ := hn
       have hcr : (M.f i).crash ((keep[i]?).getD 0) torn = (M.f i).crashN n torn := by unfold FM.crash; rw [hn, Int.toNat_natCast]
       have gb : σ'.bump.get d = some (.cells cs) := by rw [St.get_bump]; exact g
       have kb : Kept (· = d) σ σ'.bump := hkept.bump
       generalize hσb : σ'.bump = σb at gb kb
       by_cases hki : i < keep.length
       · have c2 : decide ((i : Int) < (keep.length : Int)) = true := by simpa using hki
         obtain ⟨k1, _, _⟩ := hkv.at (i := i) (by simpa using hki)
         have k2 := hkv.cellAt (i := i) (j := 0) (by simpa using hki) (by omega)
         simp only [List.getElem_map, kc, List.getElem?_cons_zero, Nat.mul_one, Nat.add_zero] at k2 k1
         have hkg : (keep[i]?).getD 0 = keep[i] := by rw [List.getElem?_eq_getElem hki]; rfl
         by_cases hkp : 0 < keep[i]
         · have c3 : decide (keep[i] > 0) = true := by simpa using hkp
           by_cases hkl : ((M.f i).loose.length : Int) < keep[i]
           · have c4 : decide (keep[i] > ((M.f i).loose.length : Int)) = true := by simpa using hkl
             have e9 : (.sc (.int .i64 ((M.f i).loose.length : Int)) : V) = .sc (.int .i64 (n : Int)) := by rw [hkg] at hn; congr 2; omega
             simp -implicitDefEqProofs (disch := first | exact nbf rfl | exact nbt rfl | (simp only [zN.down, reduceCtorEq] <;> omega) | omega) only [c1, c2, c3, c4, e0, e1, e2, e6, klen, ksize, ha, g, l2, t1, v2, hcell.1, hcell.2, vlen, vsize, k1, k2, hσb, gb, XOp.kind, aEqV, AOp.kind, zP.down, zQ.down, zR.down, zS.down, simprocAttr]
             repeat first | apply w_fin | apply w_seq | apply w_block | apply w_reg | apply w_op | apply w_dop
             refine W.mono (Q := fun r => ∃ (ρ3 : Env) (σ3 : St), r = ((.exit 2 : Ex), ρ3, σ3) ∧ ρ3 0 = .ptr d 0 ∧ ρ3 1 = kv ∧ ρ3 2 = .sc (.int .i64 torn) ∧ ρ3 6 = .sc (.int .i64 i) ∧ ρ3 7 = .agg (s2c (seenOf (M.f i).sure ((M.f i).loose.take n))) ∧ ρ3 8 = v ∧ ρ3 9 = .sc (.int .i64 n) ∧ σ3.get d = some (.cells cs) ∧ Kept (· = d) σ σ3) ?_ ?_
             · refine w_loop (fun m ρ3 σ3 => ∃ (j : Nat), m = n - j ∧ j ≤ n ∧ ρ3 0 = .ptr d 0 ∧ ρ3 1 = kv ∧ ρ3 2 = .sc (.int .i64 torn) ∧ ρ3 6 = .sc (.int .i64 i) ∧ ρ3 7 = .agg (s2c (seenOf (M.f i).sure ((M.f i).loose.take j))) ∧ ρ3 8 = v ∧ ρ3 9 = .sc (.int .i64 n) ∧ ρ3 10 = .sc (.int .i64 j) ∧ σ3.get d = some (.cells cs) ∧ Kept (· = d) σ σ3) n (by omega) ?_ ?_
               · refine ⟨0, rfl, Nat.zero_le _, ?_, ?_, ?_, ?_, ?_, ?_, ?_, ?_, gb, kb⟩
                 all_goals first | rfl | (simp -implicitDefEqProofs (disch := first | exact nbf rfl | exact nbt rfl | (simp only [zN.down, reduceCtorEq] <;> omega) | omega) only [e0, e1, e2, e6, XOp.kind, AOp.kind, zU.down, simprocAttr]; done) | (simp -implicitDefEqProofs (disch := first | exact nbf rfl | exact nbt rfl | (simp only [zN.down, reduceCtorEq] <;> omega) | omega) only [XOp.kind, AOp.kind, zU.down, simprocAttr]; exact e9) | (simp -implicitDefEqProofs (disch := first | exact nbf rfl | exact nbt rfl | (simp only [zN.down, reduceCtorEq] <;> omega) | omega) only [XOp.kind, AOp.kind, zU.down, simprocAttr]; rfl)
               · rintro m3 ρ3 σ3 ⟨j, hm3, hj, p0, p1, p2, p6, p7, p8, p9, p10, gd3, hk3⟩
                 by_cases hjn : j < n
                 · have c5 : decide ((j : Int) < (n : Int)) = true := by simpa using hjn
                   have hj2 : j < (M.f i).loose.length := by omega
                   obtain ⟨a1, a2, a3⟩ := hv.rv.at (i := j) (by simpa using hj2)
                   simp only [List.getElem_map] at a3
                   have hd := fun σ => hdone σ _ _ (okl_at hj2 hfm.1.ok)
                   have hsn : seenOf (M.f i).sure ((M.f i).loose.take (j + 1)) = done (seenOf (M.f i).sure ((M.f i).loose.take j)) (M.f i).loose[j] := by rw [take_succ' hj2, seenOf_append]
                   have w3 : IntKind.i64.wrap ((j : Int) + 1) = (j : Int) + 1 := wrap64 (by omega) (by omega)
                   simp only [chc, s2c] at a3 hd p7
                   simp -implicitDefEqProofs (disch := first | exact nbf rfl | exact nbt rfl | (simp only [zN.down, reduceCtorEq] <;> omega) | omega) only [c5, p0, p1, p2, p6, p7, p8, p9, p10, a1, a2, a3, vsize, hd, w3, s2c, XOp.kind, AOp.kind, zU.down, simprocAttr]
                   refine ⟨n - (j + 1), by omega, j + 1, rfl, hjn, ?_, by simp, gd3, hk3.bump.bump.bump⟩
                   rw [hsn]
                 · have c5 : decide ((j : Int) < (n : Int)) = false := by simpa using hjn
                   have hjn : j = n := by omega
                   subst hjn
                   simp -implicitDefEqProofs (disch := first | exact nbf rfl | exact nbt rfl | (simp only [zN.down, reduceCtorEq] <;> omega) | omega) only [c5, p9, p10, XOp.kind, AOp.kind, zU.down, simprocAttr]
                   refine ⟨_, _, rfl, ?_, ?_, ?_, ?_, ?_, ?_, ?_, gd3, hk3⟩
                   all_goals first | (simp -implicitDefEqProofs (disch := first | exact nbf rfl | exact nbt rfl | (simp only [zN.down, reduceCtorEq] <;> omega) | omega) only [p0, p1, p2, p6, p7, p8, p9, p10, XOp.kind, AOp.kind, zU.down, simprocAttr]; done) | (simp -implicitDefEqProofs (disch := first | exact nbf rfl | exact nbt rfl | (simp only [zN.down, reduceCtorEq] <;> omega) | omega) only [p0, p1, p2, p6, p7, p8, p9, p10, XOp.kind, AOp.kind, zU.down, simprocAttr]; rfl)
             · rintro _ ⟨ρ3, σ3, rfl, p0, p1, p2, p6, p7, p8, p9, gd3, hk3⟩
               have hend : ∀ (σ4 : St) (x : S2), (M.f i).crash ((keep[i]?).getD 0) torn = ⟨x, []⟩ → σ4.get d = some (.cells cs) → Kept (· = d) σ σ4 →
                 RR (σ4.put d (some (.cells (splice cs (i * 3) [.sc (.bool x.there), .str x.s, .sc .nilS])))) d (M.part keep torn (i + 1)) ∧ Kept (· = d) σ (σ4.put d (some (.cells (splice cs (i * 3) [.sc (.bool x.there), .str x.s, .sc .nilS])))) := by
                intro σ4 x hx g1 k1
                refine ⟨⟨_, get_put_self g1, ?_⟩, k1.put (.inl rfl) (St.get_lt g1) _⟩
                rw [← part_succ]
                exact hc.file hl _ (by rw [hx]) x (by rw [hx])
               have w4 : IntKind.i64.wrap ((i : Int) + 1) = (i : Int) + 1 := wrap64 (by omega) (by omega)
               have hcr2 := hcr
               unfold FM.crashN at hcr2
               dsimp only at hcr2
               have hxl := seen_len (okl_take n hfm.1.ok) hfm.1.len
               by_cases q1 : n < (M.f i).loose.length
               · exact absurd q1 (by rw [hkg] at hn; omega)
               · have c5 : decide ((n : Int) < ((M.f i).loose.length : Int)) = false := by simpa using q1
                 have hnn : (M.f i).loose[n]? = none := List.getElem?_eq_none (by omega)
                 rw [hnn] at hcr2
                 dsimp only at hcr2
                 obtain ⟨r1, r2⟩ := hend _ _ hcr2 gd3 hk3
                 simp only [s2c] at p7
                 simp -implicitDefEqProofs (disch := first | exact nbf rfl | exact nbt rfl | (simp only [zN.down, reduceCtorEq] <;> omega) | omega) only [p0, p1, p2, p6, p7, p8, p9, c5, vlen, vsize, gd3, ha, l1, w4, XOp.kind, aEqV, AOp.kind, zP.down, zQ.down, zR.down, zS.down, simprocAttr]
                 exact ⟨32 - (i + 1), by omega, i + 1, rfl, by omega, by simp, r1, r2⟩
           · have c4 : decide (keep[i] > ((M.f i).loose.length : Int)) = false := by simpa using hkl
             have e9 : (.sc (.int .i64 keep[i]) : V) = .sc (.int .i64 (n : Int)) := by rw [hkg] at hn; congr 2; omega
             simp -implicitDefEqProofs (disch := first | exact nbf rfl | exact nbt rfl | (simp only [zN.down, reduceCtorEq] <;> omega) | omega) only [c1, c2, c3, c4, e0, e1, e2, e6, klen, ksize, ha, g, l2, t1, v2, hcell.1, hcell.2, vlen, vsize, k1, k2, hσb, gb, XOp.kind, aEqV, AOp.kind, zP.down, zQ.down, zR.down, zS.down, simprocAttr]
             repeat first | apply w_fin | apply w_seq | apply w_block | apply w_reg | apply w_op | apply w_dop
             refine W.mono (Q := fun r => ∃ (ρ3 : Env) (σ3 : St), r = ((.exit 2 : Ex), ρ3, σ3) ∧ ρ3 0 = .ptr d 0 ∧ ρ3 1 = kv ∧ ρ3 2 = .sc (.int .i64 torn) ∧ ρ3 6 = .sc (.int .i64 i) ∧ ρ3 7 = .agg (s2c (seenOf (M.f i).sure ((M.f i).loose.take n))) ∧ ρ3 8 = v ∧ ρ3 9 = .sc (.int .i64 n) ∧ σ3.get d = some (.cells cs) ∧ Kept (· = d) σ σ3) ?_ ?_
             · refine w_loop (fun m ρ3 σ3 => ∃ (j : Nat), m = n - j ∧ j ≤ n ∧ ρ3 0 = .ptr d 0 ∧ ρ3 1 = kv ∧ ρ3 2 = .sc (.int .i64 torn) ∧ ρ3 6 = .sc (.int .i64 i) ∧ ρ3 7 = .agg (s2c (seenOf (M.f i).sure ((M.f i).loose.take j))) ∧ ρ3 8 = v ∧ ρ3 9 = .sc (.int .i64 n) ∧ ρ3 10 = .sc (.int .i64 j) ∧ σ3.get d = some (.cells cs) ∧ Kept (· = d) σ σ3) n (by omega) ?_ ?_
               · refine ⟨0, rfl, Nat.zero_le _, ?_, ?_, ?_, ?_, ?_, ?_, ?_, ?_, gb, kb⟩
                 all_goals first | rfl | (simp -implicitDefEqProofs (disch := first | exact nbf rfl | exact nbt rfl | (simp only [zN.down, reduceCtorEq] <;> omega) | omega) only [e0, e1, e2, e6, XOp.kind, AOp.kind, zU.down, simprocAttr]; done) | (simp -implicitDefEqProofs (disch := first | exact nbf rfl | exact nbt rfl | (simp only [zN.down, reduceCtorEq] <;> omega) | omega) only [XOp.kind, AOp.kind, zU.down, simprocAttr]; exact e9) | (simp -implicitDefEqProofs (disch := first | exact nbf rfl | exact nbt rfl | (simp only [zN.down, reduceCtorEq] <;> omega) | omega) only [XOp.kind, AOp.kind, zU.down, simprocAttr]; rfl)
               · rintro m3 ρ3 σ3 ⟨j, hm3, hj, p0, p1, p2, p6, p7, p8, p9, p10, gd3, hk3⟩
                 by_cases hjn : j < n
                 · have c5 : decide ((j : Int) < (n : Int)) = true := by simpa using hjn
                   have hj2 : j < (M.f i).loose.length := by omega
                   obtain ⟨a1, a2, a3⟩ := hv.rv.at (i := j) (by simpa using hj2)
                   simp only [List.getElem_map] at a3
                   have hd := fun σ => hdone σ _ _ (okl_at hj2 hfm.1.ok)
                   have hsn : seenOf (M.f i).sure ((M.f i).loose.take (j + 1)) = done (seenOf (M.f i).sure ((M.f i).loose.take j)) (M.f i).loose[j] := by rw [take_succ' hj2, seenOf_append]
                   have w3 : IntKind.i64.wrap ((j : Int) + 1) = (j : Int) + 1 := wrap64 (by omega) (by omega)
                   simp only [chc, s2c] at a3 hd p7
                   simp -implicitDefEqProofs (disch := first | exact nbf rfl | exact nbt rfl | (simp only [zN.down, reduceCtorEq] <;> omega) | omega) only [c5, p0, p1, p2, p6, p7, p8, p9, p10, a1, a2, a3, vsize, hd, w3, s2c, XOp.kind, AOp.kind, zU.down, simprocAttr]
                   refine ⟨n - (j + 1), by omega, j + 1, rfl, hjn, ?_, by simp, gd3, hk3.bump.bump.bump⟩
                   rw [hsn]
                 · have c5 : decide ((j : Int) < (n : Int)) = false := by simpa using hjn
                   have hjn : j = n := by omega
                   subst hjn
                   simp -implicitDefEqProofs (disch := first | exact nbf rfl | exact nbt rfl | (simp only [zN.down, reduceCtorEq] <;> omega) | omega) only [c5, p9, p10, XOp.kind, AOp.kind, zU.down, simprocAttr]
                   refine ⟨_, _, rfl, ?_, ?_, ?_, ?_, ?_, ?_, ?_, gd3, hk3⟩
                   all_goals first | (simp -implicitDefEqProofs (disch := first | exact nbf rfl | exact nbt rfl | (simp only [zN.down, reduceCtorEq] <;> omega) | omega) only [p0, p1, p2, p6, p7, p8, p9, p10, XOp.kind, AOp.kind, zU.down, simprocAttr]; done) | (simp -implicitDefEqProofs (disch := first | exact nbf rfl | exact nbt rfl | (simp only [zN.down, reduceCtorEq] <;> omega) | omega) only [p0, p1, p2, p6, p7, p8, p9, p10, XOp.kind, AOp.kind, zU.down, simprocAttr]; rfl)
             · rintro _ ⟨ρ3, σ3, rfl, p0, p1, p2, p6, p7, p8, p9, gd3, hk3⟩
               have hend : ∀ (σ4 : St) (x : S2), (M.f i).crash ((keep[i]?).getD 0) torn = ⟨x, []⟩ → σ4.get d = some (.cells cs) → Kept (· = d) σ σ4 →
                 RR (σ4.put d (some (.cells (splice cs (i * 3) [.sc (.bool x.there), .str x.s, .sc .nilS])))) d (M.part keep torn (i + 1)) ∧ Kept (· = d) σ (σ4.put d (some (.cells (splice cs (i * 3) [.sc (.bool x.there), .str x.s, .sc .nilS])))) := by
                intro σ4 x hx g1 k1
                refine ⟨⟨_, get_put_self g1, ?_⟩, k1.put (.inl rfl) (St.get_lt g1) _⟩
                rw [← part_succ]
                exact hc.file hl _ (by rw [hx]) x (by rw [hx])
               have w4 : IntKind.i64.wrap ((i : Int) + 1) = (i : Int) + 1 := wrap64 (by omega) (by omega)
               have hcr2 := hcr
               unfold FM.crashN at hcr2
               dsimp only at hcr2
               have hxl := seen_len (okl_take n hfm.1.ok) hfm.1.len
               by_cases q1 : n < (M.f i).loose.length
               · have c5 : decide ((n : Int) < ((M.f i).loose.length : Int)) = true := by simpa using q1
                 obtain ⟨a1, a2, a3⟩ := hv.rv.at (i := n) (by simpa using q1)
                 have b0 := hv.rv.cellAt (i := n) (j := 0) (by simpa using q1) (by omega)
                 have b1 := hv.rv.cellAt (i := n) (j := 1) (by simpa using q1) (by omega)
                 simp only [List.getElem_map, chc, List.getElem?_cons_zero, List.getElem?_cons_succ, Nat.add_zero] at b0 b1
                 have hnn : (M.f i).loose[n]? = some (M.f i).loose[n] := List.getElem?_eq_getElem q1
                 rw [hnn] at hcr2
                 dsimp only at hcr2
                 have hokn := okl_at q1 hfm.1.ok
                 generalize hX : seenOf (M.f i).sure ((M.f i).loose.take n) = X at hcr2 hxl hokn p7
                 generalize (M.f i).loose[n] = c at hcr2 hokn b0 b1
                 by_cases q2 : c.k = 1
                 · have d1 := beq_iff_eq.2 q2
                   by_cases q4 : 0 < c.s.length
                   · have d2 : decide ((c.s.length : Int) > 0) = true := by simpa using q4
                     by_cases q3 : 0 < torn
                     · have d3 : decide (torn > 0) = true := by simpa using q3
                       rw [if_pos ⟨q2, q4, q3⟩] at hcr2
                       have hlen1 : X.s.length + c.s.length ≤ 1048576 := by
                        rcases hokn with ⟨_, h⟩ | ⟨h, _⟩ | h
                        · exact h
                        · omega
                        · omega
                       have w5 : IntKind.i64.wrap ((c.s.length : Int) - 1) = (c.s.length : Int) - 1 := wrap64 (by omega) (by omega)
                       obtain ⟨t, ht⟩ : ∃ t : Nat, min torn ((c.s.length : Int) - 1) = t := ⟨(min torn ((c.s.length : Int) - 1)).toNat, by omega⟩
                       rw [ht, Int.toNat_natCast] at hcr2
                       have hd := fun σ => hdone σ X ⟨1, c.s.take t, 0⟩ (.inl ⟨rfl, by dsimp only; rw [List.length_take]; omega⟩)
                       have sl := sl_to (u := c.s) (n := t) (by omega)
                       simp only [chc, s2c] at hd p7
                       by_cases q5 : (c.s.length : Int) - 1 < torn
                       · have d4 : decide (torn > (c.s.length : Int) - 1) = true := by simpa using q5
                         have et : (c.s.length : Int) - 1 = t := by omega
                         have sl' : aSlice (.str c.s) none (some (.sc (.int .i64 ((c.s.length : Int) - 1)))) none = some (.str (c.s.take t)) := by rw [et]; exact sl
                         have gd4 : σ3.bump.bump.bump.get d = some (.cells cs) := by simp only [St.get_bump]; exact gd3
                         obtain ⟨r1, r2⟩ := hend _ _ hcr2 gd4 hk3.bump.bump.bump
                         simp -implicitDefEqProofs (disch := first | exact nbf rfl | exact nbt rfl | (simp only [zN.down, reduceCtorEq] <;> omega) | omega) only [p0, p1, p2, p6, p7, p8, p9, c5, d1, d2, d3, d4, a1, b0, b1, vlen, vsize, w5, sl', hd, gd3, ha, l1, w4, XOp.kind, aEqV, AOp.kind, zP.down, zQ.down, zR.down, zS.down, simprocAttr]
                         exact ⟨32 - (i + 1), by omega, i + 1, rfl, by omega, by simp, r1, r2⟩
                       · have d4 : decide (torn > (c.s.length : Int) - 1) = false := by simpa using q5
                         have et : torn = t := by omega
                         have sl' : aSlice (.str c.s) none (some (.sc (.int .i64 torn))) none = some (.str (c.s.take t)) := by rw [et]; exact sl
                         have gd4 : σ3.bump.bump.bump.get d = some (.cells cs) := by simp only [St.get_bump]; exact gd3
                         obtain ⟨r1, r2⟩ := hend _ _ hcr2 gd4 hk3.bump.bump.bump
                         simp -implicitDefEqProofs (disch := first | exact nbf rfl | exact nbt rfl | (simp only [zN.down, reduceCtorEq] <;> omega) | omega) only [p0, p1, p2, p6, p7, p8, p9, c5, d1, d2, d3, d4, a1, b0, b1, vlen, vsize, w5, sl', hd, gd3, ha, l1, w4, XOp.kind, aEqV, AOp.kind, zP.down, zQ.down, zR.down, zS.down, simprocAttr]
                         exact ⟨32 - (i + 1), by omega, i + 1, rfl, by omega, by simp, r1, r2⟩
                     · have d3 : decide (torn > 0) = false := by simpa using q3
                       rw [if_neg (fun h => q3 h.2.2)] at hcr2
                       obtain ⟨r1, r2⟩ := hend _ _ hcr2 gd3 hk3
                       simp only [s2c] at p7
                       simp -implicitDefEqProofs (disch := first | exact nbf rfl | exact nbt rfl | (simp only [zN.down, reduceCtorEq] <;> omega) | omega) only [p0, p1, p2, p6, p7, p8, p9, c5, d1, d2, d3, a1, b0, b1, vlen, vsize, gd3, ha, l1, w4, XOp.kind, aEqV, AOp.kind, zP.down, zQ.down, zR.down, zS.down, simprocAttr]
                       exact ⟨32 - (i + 1), by omega, i + 1, rfl, by omega, by simp, r1, r2⟩
                   · have d2 : decide ((c.s.length : Int) > 0) = false := by simpa using q4
                     rw [if_neg (fun h => q4 h.2.1)] at hcr2
                     obtain ⟨r1, r2⟩ := hend _ _ hcr2 gd3 hk3
                     simp only [s2c] at p7
                     simp -implicitDefEqProofs (disch := first | exact nbf rfl | exact nbt rfl | (simp only [zN.down, reduceCtorEq] <;> omega) | omega) only [p0, p1, p2, p6, p7, p8, p9, c5, d1, d2, a1, b0, b1, vlen, vsize, gd3, ha, l1, w4, XOp.kind, aEqV, AOp.kind, zP.down, zQ.down, zR.down, zS.down, simprocAttr]
                     exact ⟨32 - (i + 1), by omega, i + 1, rfl, by omega, by simp, r1, r2⟩
                 · have d1 := beq_eq_false_iff_ne.2 q2
                   rw [if_neg (fun h => q2 h.1)] at hcr2
                   obtain ⟨r1, r2⟩ := hend _ _ hcr2 gd3 hk3
                   simp only [s2c] at p7
                   simp -implicitDefEqProofs (disch := first | exact nbf rfl | exact nbt rfl | (simp only [zN.down, reduceCtorEq] <;> omega) | omega) only [p0, p1, p2, p6, p7, p8, p9, c5, d1, a1, b0, b1, vlen, vsize, gd3, ha, l1, w4, XOp.kind, aEqV, AOp.kind, zP.down, zQ.down, zR.down, zS.down, simprocAttr]
                   exact ⟨32 - (i + 1), by omega, i + 1, rfl, by omega, by simp, r1, r2⟩
               · have c5 : decide ((n : Int) < ((M.f i).loose.length : Int)) = false := by simpa using q1
                 have hnn : (M.f i).loose[n]? = none := List.getElem?_eq_none (by omega)
                 rw [hnn] at hcr2
                 dsimp only at hcr2
                 obtain ⟨r1, r2⟩ := hend _ _ hcr2 gd3 hk3
                 simp only [s2c] at p7
                 simp -implicitDefEqProofs (disch := first | exact nbf rfl | exact nbt rfl | (simp only [zN.down, reduceCtorEq] <;> omega) | omega) only [p0, p1, p2, p6, p7, p8, p9, c5, vlen, vsize, gd3, ha, l1, w4, XOp.kind, aEqV, AOp.kind, zP.down, zQ.down, zR.down, zS.down, simprocAttr]
                 exact ⟨32 - (i + 1), by omega, i + 1, rfl, by omega, by simp, r1, r2⟩
         · have c3 : decide (keep[i] > 0) = false := by simpa using hkp
           have c4 : decide ((0 : Int) > ((M.f i).loose.length : Int)) = false := by simp
           have hn0 : n = 0 := by rw [hkg] at hn; omega
           have e9 : (.sc (.int .i64 0) : V) = .sc (.int .i64 (n : Int)) := by rw [hn0]; rfl
           simp -implicitDefEqProofs (disch := first | exact nbf rfl | exact nbt rfl | (simp only [zN.down, reduceCtorEq] <;> omega) | omega) only [c1, c2, c3, c4, e0, e1, e2, e6, klen, ksize, ha, g, l2, t1, v2, hcell.1, hcell.2, vlen, vsize, k1, k2, hσb, gb, XOp.kind, aEqV, AOp.kind, zP.down, zQ.down, zR.down, zS.down, simprocAttr]
           repeat first | apply w_fin | apply w_seq | apply w_block | apply w_reg | apply w_op | apply w_dop
           refine W.mono (Q := fun r => ∃ (ρ3 : Env) (σ3 : St), r = ((.exit 2 : Ex), ρ3, σ3) ∧ ρ3 0 = .ptr d 0 ∧ ρ3 1 = kv ∧ ρ3 2 = .sc (.int .i64 torn) ∧ ρ3 6 = .sc (.int .i64 i) ∧ ρ3 7 = .agg (s2c (seenOf (M.f i).sure ((M.f i).loose.take n))) ∧ ρ3 8 = v ∧ ρ3 9 = .sc (.int .i64 n) ∧ σ3.get d = some (.cells cs) ∧ Kept (· = d) σ σ3) ?_ ?_
           · refine w_loop (fun m ρ3 σ3 => ∃ (j : Nat), m = n - j ∧ j ≤ n ∧ ρ3 0 = .ptr d 0 ∧ ρ3 1 = kv ∧ ρ3 2 = .sc (.int .i64 torn) ∧ ρ3 6 = .sc (.int .i64 i) ∧ ρ3 7 = .agg (s2c (seenOf (M.f i).sure ((M.f i).loose.take j))) ∧ ρ3 8 = v ∧ ρ3 9 = .sc (.int .i64 n) ∧ ρ3 10 = .sc (.int .i64 j) ∧ σ3.get d = some (.cells cs) ∧ Kept (· = d) σ σ3) n (by omega) ?_ ?_
             · refine ⟨0, rfl, Nat.zero_le _, ?_, ?_, ?_, ?_, ?_, ?_, ?_, ?_, gb, kb⟩
               all_goals first | rfl | (simp -implicitDefEqProofs (disch := first | exact nbf rfl | exact nbt rfl | (simp only [zN.down, reduceCtorEq] <;> omega) | omega) only [e0, e1, e2, e6, XOp.kind, AOp.kind, zU.down, simprocAttr]; done) | (simp -implicitDefEqProofs (disch := first | exact nbf rfl | exact nbt rfl | (simp only [zN.down, reduceCtorEq] <;> omega) | omega) only [XOp.kind, AOp.kind, zU.down, simprocAttr]; exact e9) | (simp -implicitDefEqProofs (disch := first | exact nbf rfl | exact nbt rfl | (simp only [zN.down, reduceCtorEq] <;> omega) | omega) only [XOp.kind, AOp.kind, zU.down, simprocAttr]; rfl)
             · rintro m3 ρ3 σ3 ⟨j, hm3, hj, p0, p1, p2, p6, p7, p8, p9, p10, gd3, hk3⟩
               by_cases hjn : j < n
               · exact absurd hjn (by omega)
               · have c5 : decide ((j : Int) < (n : Int)) = false := by simpa using hjn
                 have hjn : j = n := by omega
                 subst hjn
                 simp -implicitDefEqProofs (disch := first | exact nbf rfl | exact nbt rfl | (simp only [zN.down, reduceCtorEq] <;> omega) | omega) only [c5, p9, p10, XOp.kind, AOp.kind, zU.down, simprocAttr]
                 refine ⟨_, _, rfl, ?_, ?_, ?_, ?_, ?_, ?_, ?_, gd3, hk3⟩
                 all_goals first | (simp -implicitDefEqProofs (disch := first | exact nbf rfl | exact nbt rfl | (simp only [zN.down, reduceCtorEq] <;> omega) | omega) only [p0, p1, p2, p6, p7, p8, p9, p10, XOp.kind, AOp.kind, zU.down, simprocAttr]; done) | (simp -implicitDefEqProofs (disch := first | exact nbf rfl | exact nbt rfl | (simp only [zN.down, reduceCtorEq] <;> omega) | omega) only [p0, p1, p2, p6, p7, p8, p9, p10, XOp.kind, AOp.kind, zU.down, simprocAttr]; rfl)
           · rintro _ ⟨ρ3, σ3, rfl, p0, p1, p2, p6, p7, p8, p9, gd3, hk3⟩
             have hend : ∀ (σ4 : St) (x : S2), (M.f i).crash ((keep[i]?).getD 0) torn = ⟨x, []⟩ → σ4.get d = some (.cells cs) → Kept (· = d) σ σ4 →
               RR (σ4.put d (some (.cells (splice cs (i * 3) [.sc (.bool x.there), .str x.s, .sc .nilS])))) d (M.part keep torn (i + 1)) ∧ Kept (· = d) σ (σ4.put d (some (.cells (splice cs (i * 3) [.sc (.bool x.there), .str x.s, .sc .nilS])))) := by
              intro σ4 x hx g1 k1
              refine ⟨⟨_, get_put_self g1, ?_⟩, k1.put (.inl rfl) (St.get_lt g1) _⟩
              rw [← part_succ]
              exact hc.file hl _ (by rw [hx]) x (by rw [hx])
             have w4 : IntKind.i64.wrap ((i : Int) + 1) = (i : Int) + 1 := wrap64 (by omega) (by omega)
             have hcr2 := hcr
             unfold FM.crashN at hcr2
             dsimp only at hcr2
             have hxl := seen_len (okl_take n hfm.1.ok) hfm.1.len
             by_cases q1 : n < (M.f i).loose.length
             · have c5 : decide ((n : Int) < ((M.f i).loose.length : Int)) = true := by simpa using q1
               obtain ⟨a1, a2, a3⟩ := hv.rv.at (i := n) (by simpa using q1)
               have b0 := hv.rv.cellAt (i := n) (j := 0) (by simpa using q1) (by omega)
               have b1 := hv.rv.cellAt (i := n) (j := 1) (by simpa using q1) (by omega)
               simp only [List.getElem_map, chc, List.getElem?_cons_zero, List.getElem?_cons_succ, Nat.add_zero] at b0 b1
               have hnn : (M.f i).loose[n]? = some (M.f i).loose[n] := List.getElem?_eq_getElem q1
               rw [hnn] at hcr2
               dsimp only at hcr2
               have hokn := okl_at q1 hfm.1.ok
               generalize hX : seenOf (M.f i).sure ((M.f i).loose.take n) = X at hcr2 hxl hokn p7
               generalize (M.f i).loose[n] = c at hcr2 hokn b0 b1
               by_cases q2 : c.k = 1
               · have d1 := beq_iff_eq.2 q2
                 by_cases q4 : 0 < c.s.length
                 · have d2 : decide ((c.s.length : Int) > 0) = true := by simpa using q4
                   by_cases q3 : 0 < torn
                   · have d3 : decide (torn > 0) = true := by simpa using q3
                     rw [if_pos ⟨q2, q4, q3⟩] at hcr2
                     have hlen1 : X.s.length + c.s.length ≤ 1048576 := by
                      rcases hokn with ⟨_, h⟩ | ⟨h, _⟩ | h
                      · exact h
                      · omega
                      · omega
                     have w5 : IntKind.i64.wrap ((c.s.length : Int) - 1) = (c.s.length : Int) - 1 := wrap64 (by omega) (by omega)
                     obtain ⟨t, ht⟩ : ∃ t : Nat, min torn ((c.s.length : Int) - 1) = t := ⟨(min torn ((c.s.length : Int) - 1)).toNat, by omega⟩
                     rw [ht, Int.toNat_natCast] at hcr2
                     have hd := fun σ => hdone σ X ⟨1, c.s.take t, 0⟩ (.inl ⟨rfl, by dsimp only; rw [List.length_take]; omega⟩)
                     have sl := sl_to (u := c.s) (n := t) (by omega)
                     simp only [chc, s2c] at hd p7
                     by_cases q5 : (c.s.length : Int) - 1 < torn
                     · have d4 : decide (torn > (c.s.length : Int) - 1) = true := by simpa using q5
                       have et : (c.s.length : Int) - 1 = t := by omega
                       have sl' : aSlice (.str c.s) none (some (.sc (.int .i64 ((c.s.length : Int) - 1)))) none = some (.str (c.s.take t)) := by rw [et]; exact sl
                       have gd4 : σ3.bump.bump.bump.get d = some (.cells cs) := by simp only [St.get_bump]; exact gd3
                       obtain ⟨r1, r2⟩ := hend _ _ hcr2 gd4 hk3.bump.bump.bump
                       simp -implicitDefEqProofs (disch := first | exact nbf rfl | exact nbt rfl | (simp only [zN.down, reduceCtorEq] <;> omega) | omega) only [p0, p1, p2, p6, p7, p8, p9, c5, d1, d2, d3, d4, a1, b0, b1, vlen, vsize, w5, sl', hd, gd3, ha, l1, w4, XOp.kind, aEqV, AOp.kind, zP.down, zQ.down, zR.down, zS.down, simprocAttr]
                       exact ⟨32 - (i + 1), by omega, i + 1, rfl, by omega, by simp, r1, r2⟩
                     · have d4 : decide (torn > (c.s.length : Int) - 1) = false := by simpa using q5
                       have et : torn = t := by omega
                       have sl' : aSlice (.str c.s) none (some (.sc (.int .i64 torn))) none = some (.str (c.s.take t)) := by rw [et]; exact sl
                       have gd4 : σ3.bump.bump.bump.get d = some (.cells cs) := by simp only [St.get_bump]; exact gd3
                       obtain ⟨r1, r2⟩ := hend _ _ hcr2 gd4 hk3.bump.bump.bump
                       simp -implicitDefEqProofs (disch := first | exact nbf rfl | exact nbt rfl | (simp only [zN.down, reduceCtorEq] <;> omega) | omega) only [p0, p1, p2, p6, p7, p8, p9, c5, d1, d2, d3, d4, a1, b0, b1, vlen, vsize, w5, sl', hd, gd3, ha, l1, w4, XOp.kind, aEqV, AOp.kind, zP.down, zQ.down, zR.down, zS.down, simprocAttr]
                       exact ⟨32 - (i + 1), by omega, i + 1, rfl, by omega, by simp, r1, r2⟩
                   · have d3 : decide (torn > 0) = false := by simpa using q3
                     rw [if_neg (fun h => q3 h.2.2)] at hcr2
                     obtain ⟨r1, r2⟩ := hend _ _ hcr2 gd3 hk3
                     simp only [s2c] at p7
                     simp -implicitDefEqProofs (disch := first | exact nbf rfl | exact nbt rfl | (simp only [zN.down, reduceCtorEq] <;> omega) | omega) only [p0, p1, p2, p6, p7, p8, p9, c5, d1, d2, d3, a1, b0, b1, vlen, vsize, gd3, ha, l1, w4, XOp.kind, aEqV, AOp.kind, zP.down, zQ.down, zR.down, zS.down, simprocAttr]
                     exact ⟨32 - (i + 1), by omega, i + 1, rfl, by omega, by simp, r1, r2⟩
                 · have d2 : decide ((c.s.length : Int) > 0) = false := by simpa using q4
                   rw [if_neg (fun h => q4 h.2.1)] at hcr2
                   obtain ⟨r1, r2⟩ := hend _ _ hcr2 gd3 hk3
                   simp only [s2c] at p7
                   simp -implicitDefEqProofs (disch := first | exact nbf rfl | exact nbt rfl | (simp only [zN.down, reduceCtorEq] <;> omega) | omega) only [p0, p1, p2, p6, p7, p8, p9, c5, d1, d2, a1, b0, b1, vlen, vsize, gd3, ha, l1, w4, XOp.kind, aEqV, AOp.kind, zP.down, zQ.down, zR.down, zS.down, simprocAttr]
                   exact ⟨32 - (i + 1), by omega, i + 1, rfl, by omega, by simp, r1, r2⟩
               · have d1 := beq_eq_false_iff_ne.2 q2
                 rw [if_neg (fun h => q2 h.1)] at hcr2
                 obtain ⟨r1, r2⟩ := hend _ _ hcr2 gd3 hk3
                 simp only [s2c] at p7
                 simp -implicitDefEqProofs (disch := first | exact nbf rfl | exact nbt rfl | (simp only [zN.down, reduceCtorEq] <;> omega) | omega) only [p0, p1, p2, p6, p7, p8, p9, c5, d1, a1, b0, b1, vlen, vsize, gd3, ha, l1, w4, XOp.kind, aEqV, AOp.kind, zP.down, zQ.down, zR.down, zS.down, simprocAttr]
                 exact ⟨32 - (i + 1), by omega, i + 1, rfl, by omega, by simp, r1, r2⟩
             · have c5 : decide ((n : Int) < ((M.f i).loose.length : Int)) = false := by simpa using q1
               have hnn : (M.f i).loose[n]? = none := List.getElem?_eq_none (by omega)
               rw [hnn] at hcr2
               dsimp only at hcr2
               obtain ⟨r1, r2⟩ := hend _ _ hcr2 gd3 hk3
               simp only [s2c] at p7
               simp -implicitDefEqProofs (disch := first | exact nbf rfl | exact nbt rfl | (simp only [zN.down, reduceCtorEq] <;> omega) | omega) only [p0, p1, p2, p6, p7, p8, p9, c5, vlen, vsize, gd3, ha, l1, w4, XOp.kind, aEqV, AOp.kind, zP.down, zQ.down, zR.down, zS.down, simprocAttr]
               exact ⟨32 - (i + 1), by omega, i + 1, rfl, by omega, by simp, r1, r2⟩
       · have c2 : decide ((i : Int) < (keep.length : Int)) = false := by simpa using hki
         have c4 : decide ((0 : Int) > ((M.f i).loose.length : Int)) = false := by simp
         have hkg : (keep[i]?).getD 0 = 0 := by rw [List.getElem?_eq_none (by omega)]; rfl
         have hn0 : n = 0 := by rw [hkg] at hn; omega
         have e9 : (.sc (.int .i64 0) : V) = .sc (.int .i64 (n : Int)) := by rw [hn0]; rfl
         simp -implicitDefEqProofs (disch := first | exact nbf rfl | exact nbt rfl | (simp only [zN.down, reduceCtorEq] <;> omega) | omega) only [c1, c2, c4, e0, e1, e2, e6, klen, ksize, ha, g, l2, t1, v2, hcell.1, hcell.2, vlen, vsize, hσb, gb, XOp.kind, aEqV, AOp.kind, zP.down, zQ.down, zR.down, zS.down, simprocAttr]
         repeat first | apply w_fin | apply w_seq | apply w_block | apply w_reg | apply w_op | apply w_dop
         refine W.mono (Q := fun r => ∃ (ρ3 : Env) (σ3 : St), r = ((.exit 2 : Ex), ρ3, σ3) ∧ ρ3 0 = .ptr d 0 ∧ ρ3 1 = kv ∧ ρ3 2 = .sc (.int .i64 torn) ∧ ρ3 6 = .sc (.int .i64 i) ∧ ρ3 7 = .agg (s2c (seenOf (M.f i).sure ((M.f i).loose.take n))) ∧ ρ3 8 = v ∧ ρ3 9 = .sc (.int .i64 n) ∧ σ3.get d = some (.cells cs) ∧ Kept (· = d) σ σ3) ?_ ?_
         · refine w_loop (fun m ρ3 σ3 => ∃ (j : Nat), m = n - j ∧ j ≤ n ∧ ρ3 0 = .ptr d 0 ∧ ρ3 1 = kv ∧ ρ3 2 = .sc (.int .i64 torn) ∧ ρ3 6 = .sc (.int .i64 i) ∧ ρ3 7 = .agg (s2c (seenOf (M.f i).sure ((M.f i).loose.take j))) ∧ ρ3 8 = v ∧ ρ3 9 = .sc (.int .i64 n) ∧ ρ3 10 = .sc (.int .i64 j) ∧ σ3.get d = some (.cells cs) ∧ Kept (· = d) σ σ3) n (by omega) ?_ ?_
           · refine ⟨0, rfl, Nat.zero_le _, ?_, ?_, ?_, ?_, ?_, ?_, ?_, ?_, gb, kb⟩
             all_goals first | rfl | (simp -implicitDefEqProofs (disch := first | exact nbf rfl | exact nbt rfl | (simp only [zN.down, reduceCtorEq] <;> omega) | omega) only [e0, e1, e2, e6, XOp.kind, AOp.kind, zU.down, simprocAttr]; done) | (simp -implicitDefEqProofs (disch := first | exact nbf rfl | exact nbt rfl | (simp only [zN.down, reduceCtorEq] <;> omega) | omega) only [XOp.kind, AOp.kind, zU.down, simprocAttr]; exact e9) | (simp -implicitDefEqProofs (disch := first | exact nbf rfl | exact nbt rfl | (simp only [zN.down, reduceCtorEq] <;> omega) | omega) only [XOp.kind, AOp.kind, zU.down, simprocAttr]; rfl)
           · rintro m3 ρ3 σ3 ⟨j, hm3, hj, p0, p1, p2, p6, p7, p8, p9, p10, gd3, hk3⟩
             by_cases hjn : j < n
             · exact absurd hjn (by omega)
             · have c5 : decide ((j : Int) < (n : Int)) = false := by simpa using hjn
               have hjn : j = n := by omega
               subst hjn
               simp -implicitDefEqProofs (disch := first | exact nbf rfl | exact nbt rfl | (simp only [zN.down, reduceCtorEq] <;> omega) | omega) only [c5, p9, p10, XOp.kind, AOp.kind, zU.down, simprocAttr]
               refine ⟨_, _, rfl, ?_, ?_, ?_, ?_, ?_, ?_, ?_, gd3, hk3⟩
               all_goals first | (simp -implicitDefEqProofs (disch := first | exact nbf rfl | exact nbt rfl | (simp only [zN.down, reduceCtorEq] <;> omega) | omega) only [p0, p1, p2, p6, p7, p8, p9, p10, XOp.kind, AOp.kind, zU.down, simprocAttr]; done) | (simp -implicitDefEqProofs (disch := first | exact nbf rfl | exact nbt rfl | (simp only [zN.down, reduceCtorEq] <;> omega) | omega) only [p0, p1, p2, p6, p7, p8, p9, p10, XOp.kind, AOp.kind, zU.down, simprocAttr]; rfl)
         · rintro _ ⟨ρ3, σ3, rfl, p0, p1, p2, p6, p7, p8, p9, gd3, hk3⟩
           have hend : ∀ (σ4 : St) (x : S2), (M.f i).crash ((keep[i]?).getD 0) torn = ⟨x, []⟩ → σ4.get d = some (.cells cs) → Kept (· = d) σ σ4 →
             RR (σ4.put d (some (.cells (splice cs (i * 3) [.sc (.bool x.there), .str x.s, .sc .nilS])))) d (M.part keep torn (i + 1)) ∧ Kept (· = d) σ (σ4.put d (some (.cells (splice cs (i * 3) [.sc (.bool x.there), .str x.s, .sc .nilS])))) := by
            intro σ4 x hx g1 k1
            refine ⟨⟨_, get_put_self g1, ?_⟩, k1.put (.inl rfl) (St.get_lt g1) _⟩
            rw [← part_succ]
            exact hc.file hl _ (by rw [hx]) x (by rw [hx])
           have w4 : IntKind.i64.wrap ((i : Int) + 1) = (i : Int) + 1 := wrap64 (by omega) (by omega)
           have hcr2 := hcr
           unfold FM.crashN at hcr2
           dsimp only at hcr2
           have hxl := seen_len (okl_take n hfm.1.ok) hfm.1.len
           by_cases q1 : n < (M.f i).loose.length
           · have c5 : decide ((n : Int) < ((M.f i).loose.length : Int)) = true := by simpa using q1
             obtain ⟨a1, a2, a3⟩ := hv.rv.at (i := n) (by simpa using q1)
             have b0 := hv.rv.cellAt (i := n) (j := 0) (by simpa using q1) (by omega)
             have b1 := hv.rv.cellAt (i := n) (j := 1) (by simpa using q1) (by omega)
             simp only [List.getElem_map, chc, List.getElem?_cons_zero, List.getElem?_cons_succ, Nat.add_zero] at b0 b1
             have hnn : (M.f i).loose[n]? = some (M.f i).loose[n] := List.getElem?_eq_getElem q1
             rw [hnn] at hcr2
             dsimp only at hcr2
             have hokn := okl_at q1 hfm.1.ok
             generalize hX : seenOf (M.f i).sure ((M.f i).loose.take n) = X at hcr2 hxl hokn p7
             generalize (M.f i).loose[n] = c at hcr2 hokn b0 b1
             by_cases q2 : c.k = 1
             · have d1 := beq_iff_eq.2 q2
               by_cases q4 : 0 < c.s.length
               · have d2 : decide ((c.s.length : Int) > 0) = true := by simpa using q4
                 by_cases q3 : 0 < torn
                 · have d3 : decide (torn > 0) = true := by simpa using q3
                   rw [if_pos ⟨q2, q4, q3⟩] at hcr2
                   have hlen1 : X.s.length + c.s.length ≤ 1048576 := by
                    rcases hokn with ⟨_, h⟩ | ⟨h, _⟩ | h
                    · exact h
                    · omega
                    · omega
                   have w5 : IntKind.i64.wrap ((c.s.length : Int) - 1) = (c.s.length : Int) - 1 := wrap64 (by omega) (by omega)
                   obtain ⟨t, ht⟩ : ∃ t : Nat, min torn ((c.s.length : Int) - 1) = t := ⟨(min torn ((c.s.length : Int) - 1)).toNat, by omega⟩
                   rw [ht, Int.toNat_natCast] at hcr2
                   have hd := fun σ => hdone σ X ⟨1, c.s.take t, 0⟩ (.inl ⟨rfl, by dsimp only; rw [List.length_take]; omega⟩)
                   have sl := sl_to (u := c.s) (n := t) (by omega)
                   simp only [chc, s2c] at hd p7
                   by_cases q5 : (c.s.length : Int) - 1 < torn
                   · have d4 : decide (torn > (c.s.length : Int) - 1) = true := by simpa using q5
                     have et : (c.s.length : Int) - 1 = t := by omega
                     have sl' : aSlice (.str c.s) none (some (.sc (.int .i64 ((c.s.length : Int) - 1)))) none = some (.str (c.s.take t)) := by rw [et]; exact sl
                     have gd4 : σ3.bump.bump.bump.get d = some (.cells cs) := by simp only [St.get_bump]; exact gd3
                     obtain ⟨r1, r2⟩ := hend _ _ hcr2 gd4 hk3.bump.bump.bump
                     simp -implicitDefEqProofs (disch := first | exact nbf rfl | exact nbt rfl | (simp only [zN.down, reduceCtorEq] <;> omega) | omega) only [p0, p1, p2, p6, p7, p8, p9, c5, d1, d2, d3, d4, a1, b0, b1, vlen, vsize, w5, sl', hd, gd3, ha, l1, w4, XOp.kind, aEqV, AOp.kind, zP.down, zQ.down, zR.down, zS.down, simprocAttr]
                     exact ⟨32 - (i + 1), by omega, i + 1, rfl, by omega, by simp, r1, r2⟩
                   · have d4 : decide (torn > (c.s.length : Int) - 1) = false := by simpa using q5
                     have et : torn = t := by omega
                     have sl' : aSlice (.str c.s) none (some (.sc (.int .i64 torn))) none = some (.str (c.s.take t)) := by rw [et]; exact sl
                     have gd4 : σ3.bump.bump.bump.get d = some (.cells cs) := by simp only [St.get_bump]; exact gd3
                     obtain ⟨r1, r2⟩ := hend _ _ hcr2 gd4 hk3.bump.bump.bump
                     simp -implicitDefEqProofs (disch := first | exact nbf rfl | exact nbt rfl | (simp only [zN.down, reduceCtorEq] <;> omega) | omega) only [p0, p1, p2, p6, p7, p8, p9, c5, d1, d2, d3, d4, a1, b0, b1, vlen, vsize, w5, sl', hd, gd3, ha, l1, w4, XOp.kind, aEqV, AOp.kind, zP.down, zQ.down, zR.down, zS.down, simprocAttr]
                     exact ⟨32 - (i + 1), by omega, i + 1, rfl, by omega, by simp, r1, r2⟩
                 · have d3 : decide (torn > 0) = false := by simpa using q3
                   rw [if_neg (fun h => q3 h.2.2)] at hcr2
                   obtain ⟨r1, r2⟩ := hend _ _ hcr2 gd3 hk3
                   simp only [s2c] at p7
                   simp -implicitDefEqProofs (disch := first | exact nbf rfl | exact nbt rfl | (simp only [zN.down, reduceCtorEq] <;> omega) | omega) only [p0, p1, p2, p6, p7, p8, p9, c5, d1, d2, d3, a1, b0, b1, vlen, vsize, gd3, ha, l1, w4, XOp.kind, aEqV, AOp.kind, zP.down, zQ.down, zR.down, zS.down, simprocAttr]
                   exact ⟨32 - (i + 1), by omega, i + 1, rfl, by omega, by simp, r1, r2⟩
               · have d2 : decide ((c.s.length : Int) > 0) = false := by simpa using q4
                 rw [if_neg (fun h => q4 h.2.1)] at hcr2
                 obtain ⟨r1, r2⟩ := hend _ _ hcr2 gd3 hk3
                 simp only [s2c] at p7
                 simp -implicitDefEqProofs (disch := first | exact nbf rfl | exact nbt rfl | (simp only [zN.down, reduceCtorEq] <;> omega) | omega) only [p0, p1, p2, p6, p7, p8, p9, c5, d1, d2, a1, b0, b1, vlen, vsize, gd3, ha, l1, w4, XOp.kind, aEqV, AOp.kind, zP.down, zQ.down, zR.down, zS.down, simprocAttr]
                 exact ⟨32 - (i + 1), by omega, i + 1, rfl, by omega, by simp, r1, r2⟩
             · have d1 := beq_eq_false_iff_ne.2 q2
               rw [if_neg (fun h => q2 h.1)] at hcr2
               obtain ⟨r1, r2⟩ := hend _ _ hcr2 gd3 hk3
               simp only [s2c] at p7
               simp -implicitDefEqProofs (disch := first | exact nbf rfl | exact nbt rfl | (simp only [zN.down, reduceCtorEq] <;> omega) | omega) only [p0, p1, p2, p6, p7, p8, p9, c5, d1, a1, b0, b1, vlen, vsize, gd3, ha, l1, w4, XOp.kind, aEqV, AOp.kind, zP.down, zQ.down, zR.down, zS.down, simprocAttr]
               exact ⟨32 - (i + 1), by omega, i + 1, rfl, by omega, by simp, r1, r2⟩
           · have c5 : decide ((n : Int) < ((M.f i).loose.length : Int)) = false := by simpa using q1
             have hnn : (M.f i).loose[n]? = none := List.getElem?_eq_none (by omega)
             rw [hnn] at hcr2
             dsimp only at hcr2
             obtain ⟨r1, r2⟩ := hend _ _ hcr2 gd3 hk3
             simp only [s2c] at p7
             simp -implicitDefEqProofs (disch := first | exact nbf rfl | exact nbt rfl | (simp only [zN.down, reduceCtorEq] <;> omega) | omega) only [p0, p1, p2, p6, p7, p8, p9, c5, vlen, vsize, gd3, ha, l1, w4, XOp.kind, aEqV, AOp.kind, zP.down, zQ.down, zR.down, zS.down, simprocAttr]
             exact ⟨32 - (i + 1), by omega, i + 1, rfl, by omega, by simp, r1, r2⟩
     · have c1 : decide ((i : Int) < 32) = false := by simp; omega
       have : i = 32 := by omega
       subst this
       simp -implicitDefEqProofs (disch := first | exact nbf rfl | exact nbt rfl | (simp only [zN.down, reduceCtorEq] <;> omega) | omega) only [c1, e0, e6, XOp.kind, AOp.kind, zU.down, simprocAttr]
       refine ⟨_, _, rfl, ?_, hd, hkept⟩
       simp -implicitDefEqProofs (disch := first | exact nbf rfl | exact nbt rfl | (simp only [zN.down, reduceCtorEq] <;> omega) | omega) only [e0, XOp.kind, AOp.kind, zU.down, simprocAttr]
 · rintro _ ⟨ρ, σ2, rfl, e0, ⟨cs, g, hc⟩, hkept⟩
   have hl := hc.len
   have l0 : (96 + 1 ≤ cs.length) = True := by simp only [eq_iff_iff, iff_true]; omega
   simp -implicitDefEqProofs (disch := first | exact nbf rfl | exact nbt rfl | (simp only [zN.down, reduceCtorEq] <;> omega) | omega) only [e0, g, l0, XOp.kind, AOp.kind, zU.down, simprocAttr]
   refine ⟨⟨_, get_put_self g, ?_⟩, hkept.put (.inl rfl) (St.get_lt g) _⟩
   have := hc.power (-1)
   refine ⟨this.len, this.p, this.o, fun i hi => ?_⟩
   obtain ⟨v, hv⟩ := this.f i hi
   have e : (M.part keep torn 32).f i = (M.crash keep torn).f i := by unfold DM.part DM.crash; simp [hi]
   rw [← e]
   exact ⟨v, hv⟩
end Go.Proofs.YtehdjkikcfeiaaaGreat.dk
