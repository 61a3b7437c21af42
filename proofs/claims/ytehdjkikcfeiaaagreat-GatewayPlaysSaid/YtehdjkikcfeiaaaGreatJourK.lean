/- Journals: opened. Journals: gone over, compared. -/
import Derived.Test.YtehdjkikcfeiaaaGreatJourU
namespace Go.Proofs.YtehdjkikcfeiaaaGreat.jn
open Go.Ab fr dk
set_option maxRecDepth 100000
set_option maxHeartbeats 8000000
set_option linter.unusedSimpArgs false
set_option linter.unusedVariables false
theorem len_flen12 (l : List (List UInt8)) : 12 * l.length ≤ flen l := by
 induction l with
 | nil => simp
 | cons p l ih => simp [flen]; omega
structure JJ (bs o6 o7 j d lo : Nat) (s : List UInt8) (σs : St) (i : Nat) (σ : St) : Prop where
 bx : σ.get bs = some (.cells [.str s])
 q6 : σ.get o6 = some (.cells [.ptr j 0])
 q7 : σ.get o7 = some (.cells [.sc (.int .i64 (flen ((scan s).take i) : Nat))])
 jr : ∃ v, σ.get j = some (.cells [.ptr d 0, v, .sc (.int .i64 0)]) ∧ Ow lo σ 5 v ((((scan s).take i).map tkp).map tkc)
 ok : ∀ n (h : n < (scan s).length), n < i → jgood (((scan s).take n).map tkp) (scan s)[n]
 kp : Kept (fun o => lo ≤ o) σs σ
theorem JJ.kept {bs o6 o7 j d lo y : Nat} {s : List UInt8} {σs : St} {i : Nat} {σ σ' : St} (h : JJ bs o6 o7 j d lo s σs i σ) {X : Nat → Prop} (k : Kept X σ σ') (hX : ∀ o, X o → o = y) (hb : bs < y ∧ o6 < y ∧ o7 < y ∧ j < y ∧ lo ≤ y) (ht : σ.get y ≠ some .tok) : JJ bs o6 o7 j d lo s σs i σ' := by
 have no : ∀ {o}, o < y → ¬ X o := fun h hx => by have := hX _ hx; omega
 obtain ⟨v, h1, h2⟩ := h.jr
 exact ⟨k.get _ _ (no (by omega)) h.bx, k.get _ _ (no (by omega)) h.q6, k.get _ _ (no (by omega)) h.q7, ⟨v, k.get _ _ (no (by omega)) h1, h2.kept k fun o ho => by rw [hX o ho]; exact ht⟩, h.ok, h.kp.trans (k.sub fun o ho => by have := hX o ho; omega)⟩
theorem JJ.chk {bs o6 o7 j d lo : Nat} {s : List UInt8} {σs : St} {i : Nat} {σ : St} (h : JJ bs o6 o7 j d lo s σs i σ) (hi : i ≤ (scan s).length) : ∀ x ∈ ((scan s).take i).map tkp, tchk x = 0 := by
 intro x hx
 obtain ⟨n, hn, rfl⟩ := List.getElem_of_mem hx
 rw [List.length_map, List.length_take] at hn
 have := (h.ok n (by omega) (by omega)).1
 rw [List.getElem_map, List.getElem_take]
 exact (of_decide_eq_true this).2.2
theorem open_ok (k : Nat) (ys : YlF) (σ : St) (d : Nat) (M : DM) (h : DR σ d M) {B : Nat} (hm : M.Ok B) (hB : B ≤ 999000) (hk : 2100000 ≤ k) :
  W (callY Tab.tb (k + 6) ys 24 [.ptr d 0] σ) fun r => ∃ b, r.1 = .tup [if (jopen M).2.2 = 0 then .ptr b 0 else .sc .nilP, .sc (.int .i64 (jopen M).2.2)] ∧ ((jopen M).2.2 = 0 → JR r.2 b d (jopen M).2.1 0 ∧ σ.n ≤ b) ∧ DR r.2 d (jopen M).1 ∧ Kept (· = d) σ r.2 := by
 rw [s_call (af := Tab.b24) rfl (Nat.le_of_ble_eq_true rfl)]
 have hrd := fun σ M f h => dk.read_ok (k + 3) ys σ d M f h
 have hall := fun σ s => all_ok (k + 4) ys σ s
 have hgen := fun ys σ b y s hs hl I Q a1 a2 a3 a4 => all1_ok k ys σ b y s hs hl I Q a1 a2 a3 a4
 have hdec := fun ys σ p hp => decode_ok k ys σ p hp (by omega)
 have hmay := fun ys σ b l br x h hs hl => may_ok (k + 3) ys σ b d l br x h hs hl (by omega)
 have hcut := fun σ M f n h B hm hB => cut_ok (B := B) (k + 2) ys σ d M f n h hm hB
 have hsy := fun σ M f h B hm hB => sync_ok (B := B) (k + 3) ys σ d M f h hm hB
 generalize callY Tab.tb (k + 5) = cy at hrd hall hgen hdec hmay hcut hsy ⊢
 have ld := h.lt
 have rd := hrd σ M 0 h
 have hrl : (M.read 0).1.length ≤ 1048576 := by
  unfold DM.read
  repeat' split
  all_goals first | (simp; done) | skip
  rename_i h1 _
  rw [see_in (by omega) (by omega)]
  exact (hm.f _ (by omega)).1.seen
 have hMc := fun n => hm.change (f := 0) (c := ⟨2, [], n⟩) (.inr (.inl rfl))
 have hd2 := h.kept ((Kept.refl noX σ).bump.bump) (fun h => h)
 unfold jopen
 generalize M.read 0 = rr at *
 by_cases r4 : rr.2 = 4
 · have d4 : (rr.2 == 4) = true := by simp [r4]
   rw [if_pos r4]
   simp -implicitDefEqProofs (disch := first | exact nbf rfl | exact nbt rfl | (simp only [zN.down, reduceCtorEq] <;> omega) | omega) only [Tab.b24, dk.pnil, rd, d4, XOp.kind, aArrAddr, AOp.kind, zP.down, zQ.down, zR.down, zS.down, simprocAttr]
   refine ⟨σ.n + 2, by simp, fun _ => ⟨⟨.sc .nilS, get_push_eq (by simp), .nil⟩, by omega⟩, hd2.kept (Kept.push (Kept.refl noX _) _) (fun h => h), ?_⟩
   have k0 : Kept noX σ (σ.bump.bump.push (.cells [.ptr d 0, .sc .nilS, .sc (.int .i64 0)])) := (Kept.refl _ _).bump.bump.push _
   exact k0.any
 have d4 : (rr.2 == 4) = false := by simp [r4]
 rw [if_neg r4]
 by_cases r0 : rr.2 = 0
 rotate_left
 · have d0 : (rr.2 != 0) = true := by simp [r0]
   rw [if_pos r0]
   simp -implicitDefEqProofs (disch := first | exact nbf rfl | exact nbt rfl | (simp only [zN.down, reduceCtorEq] <;> omega) | omega) only [Tab.b24, dk.pnil, rd, d4, d0, XOp.kind, aArrAddr, AOp.kind, zP.down, zQ.down, zR.down, zS.down, simprocAttr]
   refine ⟨0, by rw [if_neg r0], fun h => absurd h r0, hd2, ?_⟩
   have k0 : Kept noX σ σ.bump.bump := (Kept.refl _ _).bump.bump
   exact k0.any
 have d0 : (rr.2 != 0) = false := by simp [r0]
 rw [if_neg (by simp [r0])]
 generalize hs1 : rr.1 = s at *
 obtain ⟨E, hE⟩ : ∃ E : DM × List Tk × Int, E = (if flen (jl s) < s.length then (if (M.change 0 ⟨2, [], flen (jl s)⟩).2 ≠ 0 then ((M.change 0 ⟨2, [], flen (jl s)⟩).1, [], (M.change 0 ⟨2, [], flen (jl s)⟩).2) else (((M.change 0 ⟨2, [], flen (jl s)⟩).1.sync 0).1, (jl s).map tkp, ((M.change 0 ⟨2, [], flen (jl s)⟩).1.sync 0).2)) else (M, (jl s).map tkp, 0)) := ⟨_, rfl⟩
 rw [← hE]
 simp -implicitDefEqProofs (disch := first | exact nbf rfl | exact nbt rfl | (simp only [zN.down, reduceCtorEq] <;> omega) | omega) only [Tab.b24, dk.pnil, rd, d4, d0, hall, XOp.kind, aArrAddr, AOp.kind, zP.down, zQ.down, zR.down, zS.down, simprocAttr]
 repeat first | apply w_fin | apply w_seq | apply w_block | apply w_reg | apply w_op | apply w_dop
 obtain ⟨S, hS⟩ : ∃ S : St, S = ((((((σ.bump.bump.push (.cells [.ptr d 0, .sc .nilS, .sc (.int .i64 0)])).push (.cells [.sc .nilP])).put (σ.n + 3) (some (.cells [.ptr (σ.n + 2) 0]))).push (.cells [.sc (.int .i64 0)])).put (σ.n + 4) (some (.cells [.sc (.int .i64 0)]))).push (.cells [.str s])) := ⟨_, rfl⟩
 have kS : Kept noX σ S := by
  subst hS
  refine Kept.push ?_ _
  refine Kept.put ?_ (.inr (by omega)) (by simp) _
  refine Kept.push ?_ _
  refine Kept.put ?_ (.inr (by omega)) (by simp) _
  exact ((Kept.refl _ _).bump.bump.push _).push _
 have sj : S.get (σ.n + 2) = some (.cells [.ptr d 0, .sc .nilS, .sc (.int .i64 0)]) := by subst hS; simp -implicitDefEqProofs (disch := first | exact nbf rfl | exact nbt rfl | (simp only [zN.down, reduceCtorEq] <;> omega) | omega) only [XOp.kind, AOp.kind, zU.down, simprocAttr]
 have s6 : S.get (σ.n + 3) = some (.cells [.ptr (σ.n + 2) 0]) := by subst hS; simp -implicitDefEqProofs (disch := first | exact nbf rfl | exact nbt rfl | (simp only [zN.down, reduceCtorEq] <;> omega) | omega) only [XOp.kind, AOp.kind, zU.down, simprocAttr]
 have s7 : S.get (σ.n + 4) = some (.cells [.sc (.int .i64 0)]) := by subst hS; simp -implicitDefEqProofs (disch := first | exact nbf rfl | exact nbt rfl | (simp only [zN.down, reduceCtorEq] <;> omega) | omega) only [XOp.kind, AOp.kind, zU.down, simprocAttr]
 have sb : S.get (σ.n + 5) = some (.cells [.str s]) := by subst hS; simp -implicitDefEqProofs (disch := first | exact nbf rfl | exact nbt rfl | (simp only [zN.down, reduceCtorEq] <;> omega) | omega) only [XOp.kind, AOp.kind, zU.down, simprocAttr]
 have nS : S.n = σ.n + 6 := by subst hS; simp -implicitDefEqProofs (disch := first | exact nbf rfl | exact nbt rfl | (simp only [zN.down, reduceCtorEq] <;> omega) | omega) only [XOp.kind, AOp.kind, zU.down, simprocAttr]
 rw [← hS]
 clear hS
 have hdS := h.kept kS (fun h => h)
 refine W.mono (Q := fun r => ∃ (ρ' : Env) (σ3 : St) (i : Nat), (r = ((.normal : Ex), ρ', σ3) ∨ r = ((.exit 0 : Ex), ρ', σ3)) ∧ i ≤ (scan s).length ∧ jl s = (scan s).take i ∧ (∃ v, σ3.get (σ.n + 2) = some (.cells [.ptr d 0, v, .sc (.int .i64 0)]) ∧ RV 5 v ((((scan s).take i).map tkp).map tkc)) ∧ σ3.get (σ.n + 3) = some (.cells [.ptr (σ.n + 2) 0]) ∧ σ3.get (σ.n + 4) = some (.cells [.sc (.int .i64 (flen ((scan s).take i) : Nat))]) ∧ Kept noX σ σ3 ∧ ρ' 0 = .ptr d 0 ∧ ρ' 4 = .str s ∧ ρ' 6 = .ptr (σ.n + 3) 0 ∧ ρ' 7 = .ptr (σ.n + 4) 0) ?_ ?_
 · refine w_range (g := 63) (cap := [.ptr (σ.n + 5) 0]) (by simp -implicitDefEqProofs (disch := first | exact nbf rfl | exact nbt rfl | (simp only [zN.down, reduceCtorEq] <;> omega) | omega) only [XOp.kind, AOp.kind, zU.down, simprocAttr]) ?_
   intro ys' hys
   rw [nS] at hys ⊢
   have hl0 : (S.push (.loop .ready none)).get (σ.n + 6) = some (.loop .ready none) := get_push_eq nS.symm
   have hJ0 : JJ (σ.n + 5) (σ.n + 3) (σ.n + 4) (σ.n + 2) d (σ.n + 2) s S 0 (S.push (.loop .ready none)) :=
    ⟨get_push_lt sb, get_push_lt s6, by simpa [flen] using get_push_lt s7, ⟨.sc .nilS, get_push_lt sj, .nil⟩, fun n _ h => absurd h (by omega), (Kept.refl _ _).push _⟩
   have hb6 : σ.n + 5 < σ.n + 6 ∧ σ.n + 3 < σ.n + 6 ∧ σ.n + 4 < σ.n + 6 ∧ σ.n + 2 < σ.n + 6 ∧ σ.n + 2 ≤ σ.n + 6 := by omega
   refine (hgen ys' (S.push (.loop .ready none)) (σ.n + 5) (σ.n + 6) s (by omega) (by omega) (fun i s' => JJ (σ.n + 5) (σ.n + 3) (σ.n + 4) (σ.n + 2) d (σ.n + 2) s S i s' ∧ s'.get (σ.n + 6) = some (.loop .ready none)) (fun s' => ∃ i, ∃ h : i < (scan s).length, ¬ jgood (((scan s).take i).map tkp) (scan s)[i] ∧ JJ (σ.n + 5) (σ.n + 3) (σ.n + 4) (σ.n + 2) d (σ.n + 2) s S i s' ∧ s'.get (σ.n + 6) = some (.loop .done (some (.exit 0)))) (fun i s' h => h.1.bx) ⟨hJ0, hl0⟩ (fun i s' s'' h k => ⟨h.1.kept (y := σ.n + 6) k (fun o h => h.elim) hb6 (by rw [h.2]; simp), k.get _ _ (fun h => h) h.2⟩) ?_).mono ?_
   · rintro i hi τ ⟨hJ, lp⟩
     rw [hys]
     refine w_round lp rfl ?_
     have lp2 := St.get_lt lp
     have hsl := flen_scan _ s (Nat.le_refl _)
     have hfl2 := flen_take_le (scan s) (i + 1)
     have hft := flen_take_succ hi
     have htk : (scan s).take i ++ [(scan s)[i]] = (scan s).take (i + 1) := by rw [List.take_add_one, List.getElem?_eq_getElem hi]; rfl
     have hln := len_flen12 (scan s)
     have hcl : ((scan s).take i).length = i := by rw [List.length_take]; omega
     have hoki : jgood (((scan s).take i).map tkp) (scan s)[i] → ∀ n (h : n < (scan s).length), n < i + 1 → jgood (((scan s).take n).map tkp) (scan s)[n] := fun hg n h hn => by
      by_cases e : n = i
      · subst e; exact hg
      · exact hJ.ok n h (by omega)
     have hchk := hJ.chk (Nat.le_of_lt hi)
     generalize hpi : (scan s)[i] = p at *
     simp -implicitDefEqProofs (disch := first | exact nbf rfl | exact nbt rfl | (simp only [zN.down, reduceCtorEq] <;> omega) | omega) only [bind2, lp, XOp.kind, AOp.kind, zU.down, simprocAttr]
     repeat first | apply w_fin | apply w_seq | apply w_block | apply w_reg | apply w_op | apply w_dop
     have kb : Kept (fun o => o = σ.n + 6) τ (τ.put (σ.n + 6) (some (.loop .busy none))) := Kept.put (X := fun o => o = σ.n + 6) (Kept.refl _ _) (.inl rfl) lp2 _
     have lpb : (τ.put (σ.n + 6) (some (.loop .busy none))).get (σ.n + 6) = some (.loop .busy none) := get_put_self lp
     have hJb := hJ.kept (y := σ.n + 6) kb (fun o h => h) hb6 (by rw [lp]; simp)
     refine (hdec ys (τ.put (σ.n + 6) (some (.loop .busy none))) p (by omega)).mono ?_
     rintro ⟨_, τ2⟩ ⟨x, rfl, hx, kd⟩
     dsimp only at kd
     have hJ2 := hJb.kept (y := σ.n + 6) kd (fun o h => h.elim) hb6 (by rw [lpb]; simp)
     have lp3 := kd.get _ _ (fun h => h) lpb
     have lp4 := St.get_lt lp3
     have stop : ∀ τ3, Kept noX τ2 τ3 → ¬ jgood (((scan s).take i).map tkp) p → ∃ i, ∃ h : i < (scan s).length, ¬ jgood (((scan s).take i).map tkp) (scan s)[i] ∧ JJ (σ.n + 5) (σ.n + 3) (σ.n + 4) (σ.n + 2) d (σ.n + 2) s S i (τ3.put (σ.n + 6) (some (.loop .done (some (.exit 0))))) ∧ (τ3.put (σ.n + 6) (some (.loop .done (some (.exit 0))))).get (σ.n + 6) = some (.loop .done (some (.exit 0))) := fun τ3 k3 hg => by
      have l5 := k3.get _ _ (fun h => h) lp3
      have hJ3 := hJ2.kept (y := σ.n + 6) k3 (fun o h => h.elim) hb6 (by rw [lp3]; simp)
      exact ⟨i, hi, by rw [hpi]; exact hg, hJ3.kept (y := σ.n + 6) (X := fun o => o = σ.n + 6) (Kept.put (X := fun o => o = σ.n + 6) (Kept.refl _ _) (.inl rfl) (St.get_lt l5) _) (fun o h => h) hb6 (by rw [l5]; simp), get_put_self l5⟩
     cases hk : tok p with
     | false =>
      simp -implicitDefEqProofs (disch := first | exact nbf rfl | exact nbt rfl | (simp only [zN.down, reduceCtorEq] <;> omega) | omega) only [hk, lp3, tkc, XOp.kind, AOp.kind, zU.down, simprocAttr]
      refine ⟨⟨_, _, rfl⟩, fun h => h.elim, fun _ => .inr ?_⟩
      obtain ⟨i', h', z1, z2, z3⟩ := stop _ (Kept.refl noX τ2).bump (fun h => by have h1 := h.1; rw [hk] at h1; cases h1)
      first | exact ⟨i', h', z1, z2⟩ | exact ⟨i', h', z1, z2, rfl⟩ | exact ⟨i', h', z1, z2, z3⟩
     | true =>
      obtain rfl := hx hk
      obtain ⟨v, gj, how⟩ := hJ2.jr
      have g6 := hJ2.q6
      have g7 := hJ2.q7
      have hjr : JR τ2.bump (σ.n + 2) d (((scan s).take i).map tkp) 0 := ⟨v, by rw [St.get_bump]; exact gj, how.rv⟩
      have hm1 := hmay ys τ2.bump (σ.n + 2) _ 0 (tkp p) hjr hchk (by rw [List.length_map]; omega)
      generalize hX : tkp p = X at *
      simp only [tkc] at hm1
      simp -implicitDefEqProofs (disch := first | exact nbf rfl | exact nbt rfl | (simp only [zN.down, reduceCtorEq] <;> omega) | omega) only [hk, lp3, tkc, g6, XOp.kind, AOp.kind, zU.down, simprocAttr]
      repeat first | apply w_fin | apply w_seq | apply w_block | apply w_reg | apply w_op | apply w_dop
      refine hm1.mono ?_
      rintro ⟨_, τ3⟩ ⟨rfl, k3⟩
      dsimp only at k3
      have k3 : Kept noX τ2 τ3 := (Kept.refl noX τ2).bump.trans k3
      have lp5 := k3.get _ _ (fun h => h) lp3
      by_cases m0 : tmay (((scan s).take i).map tkp) X = 0
      · have d1 : (tmay (((scan s).take i).map tkp) X != 0) = false := by rw [m0]; rfl
        have hJ3 := hJ2.kept (y := σ.n + 6) k3 (fun o h => h.elim) hb6 (by rw [lp3]; simp)
        obtain ⟨v3, gj3, how3⟩ := hJ3.jr
        have g63 := hJ3.q6
        have g73 := hJ3.q7
        have lj := St.get_lt gj3
        have l7 := St.get_lt g73
        have l5 := St.get_lt lp5
        have xrv := tkc_rv X
        simp only [tkc] at xrv
        simp -implicitDefEqProofs (disch := first | exact nbf rfl | exact nbt rfl | (simp only [zN.down, reduceCtorEq] <;> omega) | omega) only [d1, g63, gj3, bsl1t, XOp.kind, AOp.kind, zU.down, simprocAttr]
        repeat first | apply w_fin | apply w_seq | apply w_block | apply w_reg | apply w_op | apply w_dop
        refine (grow_ok how3 xrv (by omega) (by unfold roomB; simp; omega) (by unfold roomB; simp; omega)).mono ?_
        rintro ⟨w, τ4⟩ ⟨h4, k4⟩
        dsimp only at h4 k4
        have gj4 := k4.cells gj3
        have g64 := k4.cells g63
        have g74 := k4.cells g73
        have gb4 := k4.cells hJ3.bx
        have lp6 := k4.get _ _ lp5 (.inr (by simp))
        have hw := h4.rv.cell
        have lj4 := St.get_lt gj4
        have l74 := St.get_lt g74
        have l64 := St.get_lt lp6
        have hmap : ((((scan s).take i).map tkp).map tkc) ++ [X].map tkc = (((scan s).take (i + 1)).map tkp).map tkc := by
         rw [← htk, List.map_append, List.map_append, ← hX]; rfl
        have u1 : IntKind.i64.wrap ((flen ((scan s).take i) : Int) + 12) = (flen ((scan s).take i) : Int) + 12 := wrap64 (by omega) (by omega)
        have u2 : IntKind.i64.wrap ((flen ((scan s).take i) : Int) + 12 + (p.length : Int)) = ((flen ((scan s).take (i + 1)) : Nat) : Int) := by rw [wrap64 (by omega) (by omega), hft]; omega
        simp -implicitDefEqProofs (disch := first | exact nbf rfl | exact nbt rfl | (simp only [zN.down, reduceCtorEq] <;> omega) | omega) only [g64, gj4, g74, hw.1, hw.2, u1, u2, XOp.kind, AOp.kind, zU.down, simprocAttr]
        refine ⟨⟨_, _, lp6⟩, fun _ => .inl ⟨?_, ?_, ?_, ⟨w, ?_, ?_⟩, hoki ⟨hk, by rw [hX]; exact m0⟩, ?_⟩, fun h => h.elim⟩
        · simp -implicitDefEqProofs (disch := first | exact nbf rfl | exact nbt rfl | (simp only [zN.down, reduceCtorEq] <;> omega) | omega) only [gb4, XOp.kind, AOp.kind, zU.down, simprocAttr]
        · simp -implicitDefEqProofs (disch := first | exact nbf rfl | exact nbt rfl | (simp only [zN.down, reduceCtorEq] <;> omega) | omega) only [g64, XOp.kind, AOp.kind, zU.down, simprocAttr]
        · simp -implicitDefEqProofs (disch := first | exact nbf rfl | exact nbt rfl | (simp only [zN.down, reduceCtorEq] <;> omega) | omega) only [XOp.kind, AOp.kind, zU.down, simprocAttr]
        · simp -implicitDefEqProofs (disch := first | exact nbf rfl | exact nbt rfl | (simp only [zN.down, reduceCtorEq] <;> omega) | omega) only [XOp.kind, AOp.kind, zU.down, simprocAttr]
        · rw [← hmap]
          refine h4.kept (X := fun o => o = σ.n + 2 ∨ o = σ.n + 4 ∨ o = σ.n + 6) ((((Kept.refl _ _).put (.inl (.inl rfl)) lj4 _).put (.inl (.inr (.inl rfl))) (by simp; exact l74) _).put (.inl (.inr (.inr rfl))) (by simp; exact l64) _) ?_
          rintro _ (rfl | rfl | rfl)
          · rw [gj4]; simp
          · rw [g74]; simp
          · rw [lp6]; simp
        · have kz : Kept (fun o => σ.n + 2 ≤ o) S τ4 := ⟨Nat.le_trans hJ3.kp.n k4.n, fun o z hx ho => k4.get o z (hJ3.kp.get o z hx ho) (.inl (by omega))⟩
          exact ((kz.put (.inl (by omega)) lj4 _).put (.inl (by omega)) (by simp; exact l74) _).put (.inl (by omega)) (by simp; exact l64) _
      · have d1 : (tmay (((scan s).take i).map tkp) X != 0) = true := by rw [bne_iff_ne]; exact m0
        simp -implicitDefEqProofs (disch := first | exact nbf rfl | exact nbt rfl | (simp only [zN.down, reduceCtorEq] <;> omega) | omega) only [d1, XOp.kind, AOp.kind, zU.down, simprocAttr]
        refine ⟨⟨_, _, lp5⟩, fun h => h.elim, fun _ => .inr ?_⟩
        obtain ⟨i', h', z1, z2, z3⟩ := stop _ k3 (fun h => by rw [← hX] at m0; exact m0 h.2)
        first | exact ⟨i', h', z1, z2⟩ | exact ⟨i', h', z1, z2, rfl⟩ | exact ⟨i', h', z1, z2, z3⟩
   · rintro ⟨_, τ⟩ h
     dsimp only at h ⊢
     have kept : ∀ i, JJ (σ.n + 5) (σ.n + 3) (σ.n + 4) (σ.n + 2) d (σ.n + 2) s S i τ → σ.n + 6 < τ.n → Kept noX σ (τ.put (σ.n + 6) none) := fun i hJ ly => by
      refine Kept.put ?_ (.inr (by omega)) ly _
      exact ⟨Nat.le_trans kS.n hJ.kp.n, fun o z _ ho => hJ.kp.get o z (by have := St.get_lt ho; omega) (kS.get o z (fun h => h) ho)⟩
     rcases h with ⟨hJ, lp⟩ | ⟨i, hil, hnk, hJ, hdone⟩
     · have ly := St.get_lt lp
       obtain ⟨v, gj, how⟩ := hJ.jr
       rw [after_n lp]
       refine ⟨_, rfl, _, _, (scan s).length, .inl rfl, Nat.le_refl _, jl_eq (Nat.le_refl _) hJ.ok (.inl rfl), ⟨v, get_put_other ly (by omega) gj, how.rv⟩, get_put_other ly (by omega) hJ.q6, get_put_other ly (by omega) hJ.q7, kept _ hJ ly, ?_, ?_, ?_, ?_⟩
       all_goals (simp -implicitDefEqProofs (disch := first | exact nbf rfl | exact nbt rfl | (simp only [zN.down, reduceCtorEq] <;> omega) | omega) only [XOp.kind, AOp.kind, zU.down, simprocAttr]; done)
     · have ly := St.get_lt hdone
       obtain ⟨v, gj, how⟩ := hJ.jr
       rw [after_e hdone]
       refine ⟨_, rfl, _, _, i, .inr rfl, by omega, jl_eq (by omega) hJ.ok (.inr ⟨hil, hnk⟩), ⟨v, get_put_other ly (by omega) gj, how.rv⟩, get_put_other ly (by omega) hJ.q6, get_put_other ly (by omega) hJ.q7, kept _ hJ ly, ?_, ?_, ?_, ?_⟩
       all_goals (simp -implicitDefEqProofs (disch := first | exact nbf rfl | exact nbt rfl | (simp only [zN.down, reduceCtorEq] <;> omega) | omega) only [XOp.kind, AOp.kind, zU.down, simprocAttr]; done)
 · rintro r8 ⟨ρ', σ3, i, hr, hi, hjl, ⟨v, gj, hrv⟩, g6, g7, k3, e0, e4, e6, e7⟩
   have hb8 : stBlock 0 (some r8) = some ((.normal : Ex), ρ', σ3) := by rcases hr with rfl | rfl <;> rfl
   rw [hb8]
   clear hb8 hr
   have hfl := flen_scan _ s (Nat.le_refl _)
   have hfl2 := flen_take_le (scan s) i
   rw [← hjl] at g7 hfl2 hrv
   have hd3 := h.kept k3 (fun h => h)
   have hc1 := hcut σ3 M 0 (flen (jl s) : Nat) hd3 B hm (by omega)
   have hM1 := hMc (flen (jl s) : Nat)
   generalize jl s = lv at *
   generalize M.change 0 ⟨2, [], (flen lv : Nat)⟩ = ch at *
   simp -implicitDefEqProofs (disch := first | exact nbf rfl | exact nbt rfl | (simp only [zN.down, reduceCtorEq] <;> omega) | omega) only [e0, e4, e6, e7, g7, XOp.kind, AOp.kind, zU.down, simprocAttr]
   by_cases hlt : flen lv < s.length
   · have d1 : decide ((flen lv : Int) < (s.length : Int)) = true := by simpa using hlt
     rw [if_pos hlt] at hE
     simp -implicitDefEqProofs (disch := first | exact nbf rfl | exact nbt rfl | (simp only [zN.down, reduceCtorEq] <;> omega) | omega) only [d1, e0, e7, g7, XOp.kind, AOp.kind, zU.down, simprocAttr]
     repeat first | apply w_fin | apply w_seq | apply w_block | apply w_reg | apply w_op | apply w_dop
     refine hc1.mono ?_
     rintro ⟨_, σ4⟩ ⟨rfl, hd4, k4⟩
     dsimp only at hd4 k4
     by_cases c2 : ch.2 = 0
     · have d2 : (ch.2 != 0) = false := by simp [c2]
       rw [if_neg (by simp [c2])] at hE
       simp -implicitDefEqProofs (disch := first | exact nbf rfl | exact nbt rfl | (simp only [zN.down, reduceCtorEq] <;> omega) | omega) only [d2, e0, XOp.kind, AOp.kind, zU.down, simprocAttr]
       repeat first | apply w_fin | apply w_seq | apply w_block | apply w_reg | apply w_op | apply w_dop
       refine (hsy σ4 ch.1 0 hd4 _ hM1 (by omega)).mono ?_
       rintro ⟨_, σ5⟩ ⟨rfl, hd5, k5⟩
       dsimp only at hd5 k5
       generalize ch.1.sync 0 = sy at *
       have kk := (k3.any (X := (· = d)).trans k4).trans k5
       by_cases c3 : sy.2 = 0
       · have d3 : (sy.2 != 0) = false := by simp [c3]
         have g65 := k5.get _ _ (by omega) (k4.get _ _ (by omega) g6)
         have gj5 := k5.get _ _ (by omega) (k4.get _ _ (by omega) gj)
         simp -implicitDefEqProofs (disch := first | exact nbf rfl | exact nbt rfl | (simp only [zN.down, reduceCtorEq] <;> omega) | omega) only [d3, e6, g65, XOp.kind, AOp.kind, zU.down, simprocAttr]
         rw [hE]
         refine ⟨σ.n + 2, by rw [if_pos c3, c3], fun _ => ⟨⟨v, gj5, hrv⟩, by omega⟩, hd5, kk⟩
       · have d3 : (sy.2 != 0) = true := by simp [c3]
         simp -implicitDefEqProofs (disch := first | exact nbf rfl | exact nbt rfl | (simp only [zN.down, reduceCtorEq] <;> omega) | omega) only [d3, XOp.kind, AOp.kind, zU.down, simprocAttr]
         rw [hE]
         exact ⟨0, by rw [if_neg c3], fun h => absurd h c3, hd5, kk⟩
     · have d2 : (ch.2 != 0) = true := by simp [c2]
       rw [if_pos c2] at hE
       simp -implicitDefEqProofs (disch := first | exact nbf rfl | exact nbt rfl | (simp only [zN.down, reduceCtorEq] <;> omega) | omega) only [d2, XOp.kind, AOp.kind, zU.down, simprocAttr]
       rw [hE]
       exact ⟨0, by rw [if_neg c2], fun h => absurd h c2, hd4, k3.any.trans k4⟩
   · have d1 : decide ((flen lv : Int) < (s.length : Int)) = false := by simpa using hlt
     rw [if_neg hlt] at hE
     simp -implicitDefEqProofs (disch := first | exact nbf rfl | exact nbt rfl | (simp only [zN.down, reduceCtorEq] <;> omega) | omega) only [d1, e6, g6, XOp.kind, AOp.kind, zU.down, simprocAttr]
     rw [hE]
     exact ⟨σ.n + 2, rfl, fun _ => ⟨⟨v, gj, hrv⟩, by omega⟩, hd3, k3.any⟩
end Go.Proofs.YtehdjkikcfeiaaaGreat.jn
namespace Go.Proofs.YtehdjkikcfeiaaaGreat.jn
open Go.Ab fr dk
set_option maxRecDepth 100000
set_option maxHeartbeats 8000000
set_option linter.unusedSimpArgs false
set_option linter.unusedVariables false
theorem allj_ok (k : Nat) (ys : YlF) (σ : St) (b : Nat) :
  callY Tab.tb (k + 1) ys 61 [.ptr b 0] σ = some (.fn (.func 87) [] [.ptr σ.n 0], σ.push (.cells [.ptr b 0])) := by
 rw [s_call (af := Tab.b61) rfl (Nat.le_of_ble_eq_true rfl)]
 generalize callY Tab.tb k = cy
 simp -implicitDefEqProofs (disch := first | exact nbf rfl | exact nbt rfl | (simp only [zN.down, reduceCtorEq] <;> omega) | omega) only [Tab.b61, XOp.kind, AOp.kind, zU.down, simprocAttr]
theorem allj1_ok (k : Nat) (ys : YlF) (σ : St) (bx y b d : Nat) (l : List Tk) (br : Int) (h0 : σ.get bx = some (.cells [.ptr b 0])) (hj : JR σ b d l br) (hk : 1000020 ≤ k) (hl : l.length ≤ 1000000) (I : Nat → St → Prop) (Q : St → Prop) (hI0 : I 0 σ)
  (hkp : ∀ i σ σ', I i σ → Kept noX σ σ' → I i σ')
  (hy : ∀ i (hi : i < l.length) σ, I i σ → W (ys y [.agg (tkc l[i])] σ) fun r => (r.1 = .sc (.bool true) ∧ I (i + 1) r.2) ∨ (r.1 = .sc (.bool false) ∧ Q r.2)) :
  W (callY Tab.tb (k + 1) ys 87 [.yl y, .ptr bx 0] σ) fun r => I l.length r.2 ∨ Q r.2 := by
 rw [s_call (af := Tab.b87) rfl (Nat.le_of_ble_eq_true rfl)]
 generalize callY Tab.tb k = cy
 obtain ⟨v, g, hv⟩ := hj
 have vlen := hv.len
 have vsize := hv.size
 rw [List.length_map] at vlen
 simp -implicitDefEqProofs (disch := first | exact nbf rfl | exact nbt rfl | (simp only [zN.down, reduceCtorEq] <;> omega) | omega) only [Tab.b87, h0, g, dk.pnil, vlen, XOp.kind, aArrAddr, AOp.kind, zP.down, zQ.down, zR.down, zS.down, simprocAttr]
 repeat first | apply w_fin | apply w_seq | apply w_block | apply w_reg | apply w_op | apply w_dop
 refine W.mono (Q := fun r => ∃ (ρ : Env) (σ' : St), (r = ((.ret : Ex), ρ, σ') ∧ Q σ') ∨ (r = ((.exit 0 : Ex), ρ, σ') ∧ I l.length σ')) ?_ ?_
 · refine w_loop (fun m ρ σ' => ∃ i, m = l.length - i ∧ i ≤ l.length ∧ I i σ' ∧ ρ 0 = .yl y ∧ ρ 10 = v ∧ ρ 11 = .sc (.int .i64 l.length) ∧ ρ 12 = .sc (.int .i64 i)) l.length (by omega) ?_ ?_
   · refine ⟨0, rfl, Nat.zero_le _, hI0, ?_, ?_, ?_, ?_⟩
     all_goals first | rfl | (simp -implicitDefEqProofs (disch := first | exact nbf rfl | exact nbt rfl | (simp only [zN.down, reduceCtorEq] <;> omega) | omega) only [XOp.kind, AOp.kind, zU.down, simprocAttr]; done) | (simp -implicitDefEqProofs (disch := first | exact nbf rfl | exact nbt rfl | (simp only [zN.down, reduceCtorEq] <;> omega) | omega) only [XOp.kind, AOp.kind, zU.down, simprocAttr]; rfl)
   · rintro m ρ σ' ⟨i, hm, hi, hI, e0, e10, e11, e12⟩
     by_cases hil : i < l.length
     · have c1 : decide ((i : Int) < (l.length : Int)) = true := by simpa using hil
       obtain ⟨a1, a2, a3⟩ := tkc_at hv hil
       have hyy := hy i hil σ'.bump (hkp _ _ _ hI (Kept.refl noX σ').bump)
       simp only [tkc] at a3 hyy
       generalize l[i] = x at *
       have w1 : IntKind.i64.wrap ((i : Int) + 1) = ((i + 1 : Nat) : Int) := wrap64 (by omega) (by omega)
       simp -implicitDefEqProofs (disch := first | exact nbf rfl | exact nbt rfl | (simp only [zN.down, reduceCtorEq] <;> omega) | omega) only [c1, e0, e10, e11, e12, a1, a2, a3, vsize, XOp.kind, AOp.kind, zU.down, simprocAttr]
       repeat first | apply w_fin | apply w_seq | apply w_block | apply w_reg | apply w_op | apply w_dop
       refine hyy.mono ?_
       rintro ⟨_, σ3⟩ (⟨rfl, h3⟩ | ⟨rfl, h3⟩)
       · dsimp only at h3
         simp -implicitDefEqProofs (disch := first | exact nbf rfl | exact nbt rfl | (simp only [zN.down, reduceCtorEq] <;> omega) | omega) only [e0, e10, e11, e12, w1, XOp.kind, AOp.kind, zU.down, simprocAttr]
         exact ⟨l.length - (i + 1), by omega, i + 1, rfl, hil, h3, rfl⟩
       · simp -implicitDefEqProofs (disch := first | exact nbf rfl | exact nbt rfl | (simp only [zN.down, reduceCtorEq] <;> omega) | omega) only [XOp.kind, AOp.kind, zU.down, simprocAttr]
         exact ⟨_, _, .inl ⟨rfl, h3⟩⟩
     · have c1 : decide ((i : Int) < (l.length : Int)) = false := by simpa using hil
       have : i = l.length := by omega
       subst this
       simp -implicitDefEqProofs (disch := first | exact nbf rfl | exact nbt rfl | (simp only [zN.down, reduceCtorEq] <;> omega) | omega) only [c1, e11, e12, XOp.kind, AOp.kind, zU.down, simprocAttr]
       exact ⟨_, _, .inr ⟨rfl, hI⟩⟩
 · rintro _ ⟨ρ, σ', ⟨rfl, h⟩ | ⟨rfl, h⟩⟩
   · simp -implicitDefEqProofs (disch := first | exact nbf rfl | exact nbt rfl | (simp only [zN.down, reduceCtorEq] <;> omega) | omega) only [XOp.kind, AOp.kind, zU.down, simprocAttr]
     exact .inr h
   · simp -implicitDefEqProofs (disch := first | exact nbf rfl | exact nbt rfl | (simp only [zN.down, reduceCtorEq] <;> omega) | omega) only [XOp.kind, AOp.kind, zU.down, simprocAttr]
     exact .inl h
theorem bind1 {ρ : Env} {a : Nat} {x : V} : bindPs ρ [a] [x] = upd ρ a x := rfl
theorem eqT (σ : St) (a b c d : Int) (t : List UInt8) : aEqV σ (.struct [(0, none, .int .i64), (1, some 2, .struct [(0, none, .int .i64), (1, none, .int .i64)]), (3, none, .int .i64), (4, none, .str)]) (.agg [.sc (.int .i64 a), .sc (.int .i64 b), .sc (.int .i64 c), .sc (.int .i64 d), .str t]) (.agg [.sc (.int .i64 a), .sc (.int .i64 b), .sc (.int .i64 c), .sc (.int .i64 d), .str t]) = some true := by
 simp [aEqV, aEqFs, aPart, aEqInt, aEqStr, V.cellsOf]
end Go.Proofs.YtehdjkikcfeiaaaGreat.jn
