/-
  Ballots as bytes.
  Ballots: opened.
  Ballots: written.
  Ballots: what is there behind a crash (plain).
  VoteKept: its run.
-/
import Derived.Test.YtllkidpebjgkeaaFrU
import Derived.Test.YtllkidpebjgkeaaDiskU
import Derived.KernelRfl
namespace Go.Proofs.Ytllkidpebjgkeaa.vt
open Go.Ab fr dk
set_option maxRecDepth 100000
set_option maxHeartbeats 8000000
set_option linter.unusedSimpArgs false
set_option linter.unusedVariables false

theorem u8_ok (k : Nat) (ys : YlF) (σ : St) (n : Nat) (hn : n < 256) :
    callY Tab.tb (k + 1) ys 57 [.sc (.int .u8 (n : Int))] σ = some (.str (be 1 n), σ) := by
  rw [s_call (af := Tab.b57) rfl (Nat.le_of_ble_eq_true rfl)]
  generalize callY Tab.tb k = cy
  have e : be 1 n = [UInt8.ofNat n] := by simp only [be, List.nil_append]; rw [Nat.mod_eq_of_lt hn]
  have b2 : aBslice 1 1 [.sc (.int .u8 0)] [(0, 1, .sc (.int .u8 (n : Int)))] = some (.vs .exact 1 1 ((be 1 n).map byteV)) := by
    rw [e, List.map_cons, List.map_nil, byteV_ofNat hn]; rfl
  have b3 : ∀ σ, aB2s σ (.vs .exact 1 1 ((be 1 n).map byteV)) = some (.str (be 1 n)) := fun σ => b2s_rv (by have := bc_rv .exact (be 1 n); rwa [be_len] at this)
  simp -implicitDefEqProofs (disch := first | exact nbf rfl | exact nbt rfl | (simp only [ne_eq, reduceCtorEq, not_false_eq_true]; done) | omega | (simp -implicitDefEqProofs only [zN.down] <;> omega) | fail) only [Tab.b57, b2, b3, XOp.kind, reduceCtorEq, V.bool, V.i64, aUn, aBox, aLoad, aArrAddr, aFold, aEqV, chkAdd, effAdd, AOp.kind, chkAll, chkSee, zP.down, zQ.down, zR.down, simprocAttr]
theorem ru8_ok (k : Nat) (ys : YlF) (σ : St) (o : Nat) (r : Rd) (h : fr.RR σ o r) (hl : r.s.length ≤ 140737488355328) (ha : r.at' ≤ r.s.length) (hk : 20 ≤ k) :
    W (callY Tab.tb (k + 3) ys 53 [.ptr o 0] σ) fun q => q.1 = .sc (.int .u8 (r.num 1 : Nat)) ∧ fr.RR q.2 o (r.go 1) ∧ Kept (· = o) σ q.2 := by
  rw [s_call (af := Tab.b53) rfl (Nat.le_of_ble_eq_true rfl)]
  have ht := number_ok k ys σ o r 1 h hl ha (by omega) hk
  generalize callY Tab.tb (k + 2) = cy at ht ⊢
  have hlt := num_lt r 1
  have w1 : IntKind.u8.wrap (r.num 1 : Int) = (r.num 1 : Nat) := wrap_u8 (by omega)
  simp -implicitDefEqProofs (disch := first | exact nbf rfl | exact nbt rfl | (simp only [ne_eq, reduceCtorEq, not_false_eq_true]; done) | omega | (simp -implicitDefEqProofs only [zN.down] <;> omega) | fail) only [Tab.b53, XOp.kind, reduceCtorEq, V.bool, V.i64, aUn, aBox, aLoad, aArrAddr, aFold, aEqV, chkAdd, effAdd, AOp.kind, chkAll, chkSee, zP.down, zQ.down, zR.down, simprocAttr]
  repeat (first | refine w_fin ?_ | refine w_seq ?_ | refine w_block ?_ | refine w_reg ?_ | refine w_op ?_ | refine w_dop ?_)
  refine ht.mono ?_
  rintro ⟨_, σ1⟩ ⟨rfl, h1, k1⟩
  simp -implicitDefEqProofs (disch := first | exact nbf rfl | exact nbt rfl | (simp only [ne_eq, reduceCtorEq, not_false_eq_true]; done) | omega | (simp -implicitDefEqProofs only [zN.down] <;> omega) | fail) only [w1, XOp.kind, reduceCtorEq, V.bool, V.i64, aUn, aBox, aLoad, aArrAddr, aFold, aEqV, chkAdd, effAdd, AOp.kind, chkAll, chkSee, zP.down, zQ.down, zR.down, simprocAttr]
  exact ⟨h1, k1⟩
def Rd.end' (r : Rd) : Nat := if r.err ≠ 0 then r.err else if r.at' < r.s.length then 7 else 0
theorem end_ok (k : Nat) (ys : YlF) (σ : St) (o : Nat) (r : Rd) (h : fr.RR σ o r) :
    W (callY Tab.tb (k + 1) ys 54 [.ptr o 0] σ) fun q => ∃ b, q.1 = .agg [.sc (.int .i64 (Rd.end' r : Nat)), .sc (.int .i64 b)] ∧ Kept noX σ q.2 := by
  rw [s_call (af := Tab.b54) rfl (Nat.le_of_ble_eq_true rfl)]
  generalize callY Tab.tb k = cy
  unfold fr.RR at h
  unfold Rd.end'
  by_cases c1 : r.err = 0
  · have d1 : ((r.err : Int) != 0) = false := by simp [c1]
    rw [if_neg (by simp [c1])]
    by_cases c2 : r.at' < r.s.length
    · have d2 : decide ((r.at' : Int) < (r.s.length : Int)) = true := by simpa using c2
      rw [if_pos c2]
      simp -implicitDefEqProofs (disch := first | exact nbf rfl | exact nbt rfl | (simp only [ne_eq, reduceCtorEq, not_false_eq_true]; done) | omega | (simp -implicitDefEqProofs only [zN.down] <;> omega) | fail) only [Tab.b54, h, fr.pnil, d1, d2, XOp.kind, reduceCtorEq, V.bool, V.i64, aUn, aBox, aLoad, aArrAddr, aFold, chkAdd, effAdd, AOp.kind, chkAll, chkSee, zP.down, zQ.down, zR.down, simprocAttr]
      exact ⟨_, rfl, (Kept.refl _ _).bump⟩
    · have d2 : decide ((r.at' : Int) < (r.s.length : Int)) = false := by simpa using c2
      rw [if_neg c2]
      simp -implicitDefEqProofs (disch := first | exact nbf rfl | exact nbt rfl | (simp only [ne_eq, reduceCtorEq, not_false_eq_true]; done) | omega | (simp -implicitDefEqProofs only [zN.down] <;> omega) | fail) only [Tab.b54, h, fr.pnil, d1, d2, XOp.kind, reduceCtorEq, V.bool, V.i64, aUn, aBox, aLoad, aArrAddr, aFold, chkAdd, effAdd, AOp.kind, chkAll, chkSee, zP.down, zQ.down, zR.down, simprocAttr]
      exact ⟨_, rfl, (Kept.refl _ _).bump⟩
  · have d1 : ((r.err : Int) != 0) = true := by simp; omega
    rw [if_pos c1]
    simp -implicitDefEqProofs (disch := first | exact nbf rfl | exact nbt rfl | (simp only [ne_eq, reduceCtorEq, not_false_eq_true]; done) | omega | (simp -implicitDefEqProofs only [zN.down] <;> omega) | fail) only [Tab.b54, h, fr.pnil, d1, XOp.kind, reduceCtorEq, V.bool, V.i64, aUn, aBox, aLoad, aArrAddr, aFold, chkAdd, effAdd, AOp.kind, chkAll, chkSee, zP.down, zQ.down, zR.down, simprocAttr]
    exact ⟨_, rfl, (Kept.refl _ _).bump⟩

def vmay (t w : Int) : Prop := 0 ≤ t ∧ t ≤ 1099511627776 ∧ -1 ≤ w ∧ w ≤ 2
instance (t w : Int) : Decidable (vmay t w) := by unfold vmay; infer_instance
theorem check_ok (k : Nat) (ys : YlF) (σ : St) (t w : Int) : callY Tab.tb (k + 1) ys 10 [.agg [.sc (.int .i64 t), .sc (.int .i64 w)]] σ = some (.sc (.int .i64 (if vmay t w then 0 else 2)), σ.bump) := by
  rw [s_call (af := Tab.b10) rfl (Nat.le_of_ble_eq_true rfl)]
  generalize callY Tab.tb k = cy
  by_cases c1 : t < 0
  · have d1 : decide (t < 0) = true := by simpa using c1
    rw [if_neg (show ¬ vmay t w by unfold vmay; omega)]
    simp -implicitDefEqProofs (disch := first | exact nbf rfl | exact nbt rfl | (simp only [ne_eq, reduceCtorEq, not_false_eq_true]; done) | omega | (simp -implicitDefEqProofs only [zN.down] <;> omega) | fail) only [Tab.b10, d1, XOp.kind, reduceCtorEq, V.bool, V.i64, aUn, aBox, aLoad, aArrAddr, aFold, aEqV, chkAdd, effAdd, AOp.kind, chkAll, chkSee, zP.down, zQ.down, zR.down, simprocAttr]
  have d1 : decide (t < 0) = false := by simpa using c1
  by_cases c2 : t > 1099511627776
  · have d2 : decide (t > 1099511627776) = true := by simpa using c2
    rw [if_neg (show ¬ vmay t w by unfold vmay; omega)]
    simp -implicitDefEqProofs (disch := first | exact nbf rfl | exact nbt rfl | (simp only [ne_eq, reduceCtorEq, not_false_eq_true]; done) | omega | (simp -implicitDefEqProofs only [zN.down] <;> omega) | fail) only [Tab.b10, d1, d2, XOp.kind, reduceCtorEq, V.bool, V.i64, aUn, aBox, aLoad, aArrAddr, aFold, aEqV, chkAdd, effAdd, AOp.kind, chkAll, chkSee, zP.down, zQ.down, zR.down, simprocAttr]
  have d2 : decide (t > 1099511627776) = false := by simpa using c2
  by_cases c3 : w < -1
  · have d3 : decide (w < -1) = true := by simpa using c3
    rw [if_neg (show ¬ vmay t w by unfold vmay; omega)]
    simp -implicitDefEqProofs (disch := first | exact nbf rfl | exact nbt rfl | (simp only [ne_eq, reduceCtorEq, not_false_eq_true]; done) | omega | (simp -implicitDefEqProofs only [zN.down] <;> omega) | fail) only [Tab.b10, d1, d2, d3, XOp.kind, reduceCtorEq, V.bool, V.i64, aUn, aBox, aLoad, aArrAddr, aFold, aEqV, chkAdd, effAdd, AOp.kind, chkAll, chkSee, zP.down, zQ.down, zR.down, simprocAttr]
  have d3 : decide (w < -1) = false := by simpa using c3
  by_cases c4 : w ≥ 3
  · have d4 : decide (w ≥ 3) = true := by simpa using c4
    rw [if_neg (show ¬ vmay t w by unfold vmay; omega)]
    simp -implicitDefEqProofs (disch := first | exact nbf rfl | exact nbt rfl | (simp only [ne_eq, reduceCtorEq, not_false_eq_true]; done) | omega | (simp -implicitDefEqProofs only [zN.down] <;> omega) | fail) only [Tab.b10, d1, d2, d3, d4, XOp.kind, reduceCtorEq, V.bool, V.i64, aUn, aBox, aLoad, aArrAddr, aFold, aEqV, chkAdd, effAdd, AOp.kind, chkAll, chkSee, zP.down, zQ.down, zR.down, simprocAttr]
  have d4 : decide (w ≥ 3) = false := by simpa using c4
  rw [if_pos (show vmay t w by unfold vmay; omega)]
  simp -implicitDefEqProofs (disch := first | exact nbf rfl | exact nbt rfl | (simp only [ne_eq, reduceCtorEq, not_false_eq_true]; done) | omega | (simp -implicitDefEqProofs only [zN.down] <;> omega) | fail) only [Tab.b10, d1, d2, d3, d4, XOp.kind, reduceCtorEq, V.bool, V.i64, aUn, aBox, aLoad, aArrAddr, aFold, aEqV, chkAdd, effAdd, AOp.kind, chkAll, chkSee, zP.down, zQ.down, zR.down, simprocAttr]

/-- A ballot's payload. -/
def vpay (c t u : Nat) : List UInt8 := be 8 c ++ be 8 t ++ be 1 u
theorem vpay_len (c t u : Nat) : (vpay c t u).length = 17 := by simp [vpay, be_len]
theorem encode_ok (k : Nat) (ys : YlF) (σ : St) (c t u : Nat) (hc : c < 18446744073709551616) (ht : t ≤ 1099511627776) (hu : u ≤ 3) (hk : 5000 ≤ k) :
    W (callY Tab.tb (k + 5) ys 36 [.sc (.int .u64 (c : Int)), .agg [.sc (.int .i64 (t : Int)), .sc (.int .i64 ((u : Int) - 1))]] σ) fun r => r.1 = .str (fput (vpay c t u)) ∧ Kept noX σ r.2 := by
  rw [s_call (af := Tab.b36) rfl (Nat.le_of_ble_eq_true rfl)]
  have h64 := fun σ n hn => u64_ok (k + 2) ys σ n hn
  have h8 := fun σ n hn => u8_ok (k + 3) ys σ n hn
  have hp := fun σ p hp => fr.put_ok k ys σ p hp (by omega)
  generalize callY Tab.tb (k + 4) = cy at h64 h8 hp ⊢
  have e1 := fun σ => h64 σ c hc
  have e2 := fun σ => h64 σ t (by omega)
  have e3 := fun σ => h8 σ u (by omega)
  have w1 : IntKind.u64.wrap (t : Int) = (t : Nat) := wrap_u64 (by omega)
  have w2 : IntKind.i64.wrap ((u : Int) - 1 + 1) = (u : Int) := by rw [wrap64 (by omega) (by omega)]; omega
  have w3 : IntKind.u8.wrap (u : Int) = (u : Nat) := wrap_u8 (by omega)
  have a1 := str_add (a := be 8 c) (b := be 8 t) (by rw [be_len, be_len]; decide)
  have a2 := str_add (a := be 8 c ++ be 8 t) (b := be 1 u) (by rw [List.length_append, be_len, be_len, be_len]; decide)
  have hl := vpay_len c t u
  unfold vpay at hl ⊢
  simp -implicitDefEqProofs (disch := first | exact nbf rfl | exact nbt rfl | (simp only [ne_eq, reduceCtorEq, not_false_eq_true]; done) | omega | (simp -implicitDefEqProofs only [zN.down] <;> omega) | fail) only [Tab.b36, e1, e2, e3, w1, w2, w3, a1, a2, XOp.kind, reduceCtorEq, V.bool, V.i64, aUn, aBox, aLoad, aArrAddr, aFold, aEqV, chkAdd, effAdd, AOp.kind, chkAll, chkSee, zP.down, zQ.down, zR.down, simprocAttr]
  repeat (first | refine w_fin ?_ | refine w_seq ?_ | refine w_block ?_ | refine w_reg ?_ | refine w_op ?_ | refine w_dop ?_)
  refine (hp _ (be 8 c ++ be 8 t ++ be 1 u) (by omega)).mono ?_
  rintro ⟨_, σ1⟩ ⟨rfl, k1⟩
  simp -implicitDefEqProofs (disch := first | exact nbf rfl | exact nbt rfl | (simp only [ne_eq, reduceCtorEq, not_false_eq_true]; done) | omega | (simp -implicitDefEqProofs only [zN.down] <;> omega) | fail) only [XOp.kind, reduceCtorEq, V.bool, V.i64, aUn, aBox, aLoad, aArrAddr, aFold, aEqV, chkAdd, effAdd, AOp.kind, chkAll, chkSee, zP.down, zQ.down, zR.down, simprocAttr]
  exact (Kept.refl _ _).bump.trans k1

def vcnt (p : List UInt8) : Nat := val (p.take 8)
def vtm (p : List UInt8) : Nat := val ((p.drop 8).take 8)
def vwho (p : List UInt8) : Nat := val ((p.drop 16).take 1)
def vok (p : List UInt8) : Bool := decide (p.length = 17 ∧ 1 ≤ vcnt p ∧ vcnt p ≤ 4611686018427387904 ∧ vtm p ≤ 1099511627776 ∧ vwho p ≤ 3)
theorem decode_ok (k : Nat) (ys : YlF) (σ : St) (p : List UInt8) (hp : p.length ≤ 140737488355328) (hk : 20 ≤ k) :
    W (callY Tab.tb (k + 4) ys 31 [.str p] σ) fun r => ∃ c t w, r.1 = .tup [.sc (.int .u64 c), .agg [.sc (.int .i64 t), .sc (.int .i64 w)], .sc (.bool (vok p))] ∧ (vok p = true → c = (vcnt p : Nat) ∧ t = (vtm p : Nat) ∧ w = (vwho p : Int) - 1) ∧ Kept noX σ r.2 := by
  rw [s_call (af := Tab.b31) rfl (Nat.le_of_ble_eq_true rfl)]
  have hnew := fun σ => rnew_ok (k + 2) ys σ p
  have h64 := fun σ o r h hl ha => ru64_ok k ys σ o r h hl ha hk
  have h8 := fun σ o r h hl ha => ru8_ok k ys σ o r h hl ha hk
  have hend := fun σ o r h => end_ok (k + 2) ys σ o r h
  have hch := fun σ t w => check_ok (k + 2) ys σ t w
  generalize callY Tab.tb (k + 3) = cy at hnew h64 h8 hend hch ⊢
  simp -implicitDefEqProofs (disch := first | exact nbf rfl | exact nbt rfl | (simp only [ne_eq, reduceCtorEq, not_false_eq_true]; done) | omega | (simp -implicitDefEqProofs only [zN.down] <;> omega) | fail) only [Tab.b31, hnew, XOp.kind, reduceCtorEq, V.bool, V.i64, aUn, aBox, aLoad, aArrAddr, aFold, aEqV, chkAdd, effAdd, AOp.kind, chkAll, chkSee, zP.down, zQ.down, zR.down, simprocAttr]
  repeat (first | refine w_fin ?_ | refine w_seq ?_ | refine w_block ?_ | refine w_reg ?_ | refine w_op ?_ | refine w_dop ?_)
  have r0 := RR.new σ.bump p
  have kb : Kept noX σ σ.bump := (Kept.refl _ _).bump
  have hsb : σ.bump.n = σ.n + 1 := by simp
  rw [hsb] at r0
  generalize hσ1 : σ.bump.push (.cells [.str p, .sc (.int .i64 0), .sc (.int .i64 0), .sc (.int .i64 0)]) = σ1 at *
  refine (h64 σ1 (σ.n + 1) _ r0 hp (Nat.zero_le _)).mono ?_
  rintro ⟨_, σ2⟩ ⟨rfl, r2, k2⟩
  dsimp only at r2 k2
  simp -implicitDefEqProofs (disch := first | exact nbf rfl | exact nbt rfl | (simp only [ne_eq, reduceCtorEq, not_false_eq_true]; done) | omega | (simp -implicitDefEqProofs only [zN.down] <;> omega) | fail) only [XOp.kind, reduceCtorEq, V.bool, V.i64, aUn, aBox, aLoad, aArrAddr, aFold, aEqV, chkAdd, effAdd, AOp.kind, chkAll, chkSee, zP.down, zQ.down, zR.down, simprocAttr]
  repeat (first | refine w_fin ?_ | refine w_seq ?_ | refine w_block ?_ | refine w_reg ?_ | refine w_op ?_ | refine w_dop ?_)
  have hs1 : ((Rd.mk p 0 0 0).go 8).s = p := Rd.go_s _ _
  refine (h64 σ2 (σ.n + 1) _ r2 (by rw [hs1]; exact hp) (Rd.go_le (Nat.zero_le _) _)).mono ?_
  rintro ⟨_, σ3⟩ ⟨rfl, r3, k3⟩
  dsimp only at r3 k3
  simp -implicitDefEqProofs (disch := first | exact nbf rfl | exact nbt rfl | (simp only [ne_eq, reduceCtorEq, not_false_eq_true]; done) | omega | (simp -implicitDefEqProofs only [zN.down] <;> omega) | fail) only [XOp.kind, reduceCtorEq, V.bool, V.i64, aUn, aBox, aLoad, aArrAddr, aFold, aEqV, chkAdd, effAdd, AOp.kind, chkAll, chkSee, zP.down, zQ.down, zR.down, simprocAttr]
  repeat (first | refine w_fin ?_ | refine w_seq ?_ | refine w_block ?_ | refine w_reg ?_ | refine w_op ?_ | refine w_dop ?_)
  have hs2 : (((Rd.mk p 0 0 0).go 8).go 8).s = p := by rw [Rd.go_s]; exact hs1
  have ha2 : (((Rd.mk p 0 0 0).go 8).go 8).at' ≤ (((Rd.mk p 0 0 0).go 8).go 8).s.length := Rd.go_le (Rd.go_le (Nat.zero_le _) _) _
  refine (h8 σ3 (σ.n + 1) _ r3 (by rw [hs2]; exact hp) ha2).mono ?_
  rintro ⟨_, σ4⟩ ⟨rfl, r4, k4⟩
  dsimp only at r4 k4
  have kk : Kept noX σ σ4 := by
    have := (k2.trans k3).trans k4
    rw [← hσ1, ← hsb] at this
    exact kb.trans (Kept.new this)
  have n8 := num_lt (((Rd.mk p 0 0 0).go 8).go 8) 1
  -- what was read
  have end17 : Rd.end' ((((Rd.mk p 0 0 0).go 8).go 8).go 1) = 0 ↔ p.length = 17 := by
    by_cases a : p.length < 8
    · have g1 : (Rd.mk p 0 0 0).go 8 = ⟨p, 0, 7, 0⟩ := by unfold Rd.go; rw [if_neg (by simp), if_pos (by simpa using a)]
      rw [g1]; simp [Rd.go, Rd.end']; omega
    have g1 : (Rd.mk p 0 0 0).go 8 = ⟨p, 8, 0, 0⟩ := by unfold Rd.go; rw [if_neg (by simp), if_neg (by simpa using a)]
    rw [g1]
    by_cases a2 : p.length < 16
    · have g2 : (Rd.mk p 8 0 0).go 8 = ⟨p, 8, 7, 8⟩ := by unfold Rd.go; rw [if_neg (by simp), if_pos (by simp only; omega)]
      rw [g2]; simp [Rd.go, Rd.end']; omega
    have g2 : (Rd.mk p 8 0 0).go 8 = ⟨p, 16, 0, 0⟩ := by unfold Rd.go; rw [if_neg (by simp), if_neg (by simp only; omega)]
    rw [g2]
    by_cases a3 : p.length < 17
    · have g3 : (Rd.mk p 16 0 0).go 1 = ⟨p, 16, 7, 16⟩ := by unfold Rd.go; rw [if_neg (by simp), if_pos (by simp only; omega)]
      rw [g3]; simp [Rd.end']; omega
    have g3 : (Rd.mk p 16 0 0).go 1 = ⟨p, 17, 0, 0⟩ := by unfold Rd.go; rw [if_neg (by simp), if_neg (by simp only; omega)]
    rw [g3]; simp only [Rd.end', ne_eq, not_true_eq_false, if_false]; split <;> omega
  have nums : p.length = 17 → (Rd.mk p 0 0 0).num 8 = vcnt p ∧ ((Rd.mk p 0 0 0).go 8).num 8 = vtm p ∧ (((Rd.mk p 0 0 0).go 8).go 8).num 1 = vwho p := by
    intro h17
    have g1 : (Rd.mk p 0 0 0).go 8 = ⟨p, 8, 0, 0⟩ := by unfold Rd.go; rw [if_neg (by simp), if_neg (by simp only; omega)]
    have g2 : (Rd.mk p 8 0 0).go 8 = ⟨p, 16, 0, 0⟩ := by unfold Rd.go; rw [if_neg (by simp), if_neg (by simp only; omega)]
    rw [g1, g2]
    refine ⟨?_, ?_, ?_⟩
    · unfold Rd.num vcnt; rw [if_neg (by simp only [ne_eq, not_true_eq_false, false_or]; omega)]; simp
    · unfold Rd.num vtm; rw [if_neg (by simp only [ne_eq, not_true_eq_false, false_or]; omega)]
    · unfold Rd.num vwho; rw [if_neg (by simp only [ne_eq, not_true_eq_false, false_or]; omega)]
  generalize (Rd.mk p 0 0 0).num 8 = c at *
  generalize ((Rd.mk p 0 0 0).go 8).num 8 = t at *
  generalize (((Rd.mk p 0 0 0).go 8).go 8).num 1 = u at *
  have w1 : IntKind.i64.wrap (u : Int) = (u : Int) := wrap64 (by omega) (by omega)
  have w2 : IntKind.i64.wrap ((u : Int) - 1) = (u : Int) - 1 := wrap64 (by omega) (by omega)
  simp -implicitDefEqProofs (disch := first | exact nbf rfl | exact nbt rfl | (simp only [ne_eq, reduceCtorEq, not_false_eq_true]; done) | omega | (simp -implicitDefEqProofs only [zN.down] <;> omega) | fail) only [w1, w2, XOp.kind, reduceCtorEq, V.bool, V.i64, aUn, aBox, aLoad, aArrAddr, aFold, aEqV, chkAdd, effAdd, AOp.kind, chkAll, chkSee, zP.down, zQ.down, zR.down, simprocAttr]
  repeat (first | refine w_fin ?_ | refine w_seq ?_ | refine w_block ?_ | refine w_reg ?_ | refine w_op ?_ | refine w_dop ?_)
  refine (hend σ4.bump (σ.n + 1) _ (by unfold fr.RR at r4 ⊢; rw [St.get_bump]; exact r4)).mono ?_
  rintro ⟨_, σ5⟩ ⟨b, rfl, k5⟩
  dsimp only at k5
  have kk5 := kk.bump.trans k5
  have hvk : vok p = decide (p.length = 17 ∧ 1 ≤ vcnt p ∧ vcnt p ≤ 4611686018427387904 ∧ vtm p ≤ 1099511627776 ∧ vwho p ≤ 3) := rfl
  by_cases h17 : p.length = 17
  · have d0 : ((Rd.end' ((((Rd.mk p 0 0 0).go 8).go 8).go 1) : Int) == 0) = true := by rw [end17.2 h17]; rfl
    obtain ⟨rfl, rfl, rfl⟩ := nums h17
    by_cases q1 : 1 ≤ vcnt p
    · have d1 : decide ((vcnt p : Int) ≥ 1) = true := by simp; omega
      by_cases q2 : vcnt p ≤ 4611686018427387904
      · have d2 : decide ((vcnt p : Int) ≤ 4611686018427387904) = true := by simp; omega
        by_cases q3 : vtm p ≤ 1099511627776
        · have d3 : decide ((vtm p : Int) ≤ 1099511627776) = true := by simp; omega
          have w3 : IntKind.i64.wrap (vtm p : Int) = (vtm p : Int) := wrap64 (by omega) (by omega)
          by_cases q4 : vwho p ≤ 3
          · have m1 : (if vmay (vtm p : Int) ((vwho p : Int) - 1) then (0 : Int) else 2) = 0 := if_pos (by unfold vmay; omega)
            have hv : vok p = true := by rw [hvk]; exact decide_eq_true ⟨h17, q1, q2, q3, q4⟩
            simp -implicitDefEqProofs (disch := first | exact nbf rfl | exact nbt rfl | (simp only [ne_eq, reduceCtorEq, not_false_eq_true]; done) | omega | (simp -implicitDefEqProofs only [zN.down] <;> omega) | fail) only [d0, d1, d2, d3, w3, hch, m1, hv, XOp.kind, reduceCtorEq, V.bool, V.i64, aUn, aBox, aLoad, aArrAddr, aFold, aEqV, chkAdd, effAdd, AOp.kind, chkAll, chkSee, zP.down, zQ.down, zR.down, simprocAttr]
            exact ⟨_, _, _, rfl, fun _ => ⟨rfl, rfl, rfl⟩, kk5.bump⟩
          · have m1 : (if vmay (vtm p : Int) ((vwho p : Int) - 1) then (0 : Int) else 2) = 2 := if_neg (by unfold vmay; omega)
            have hv : vok p = false := by rw [hvk]; exact decide_eq_false (by omega)
            simp -implicitDefEqProofs (disch := first | exact nbf rfl | exact nbt rfl | (simp only [ne_eq, reduceCtorEq, not_false_eq_true]; done) | omega | (simp -implicitDefEqProofs only [zN.down] <;> omega) | fail) only [d0, d1, d2, d3, w3, hch, m1, hv, XOp.kind, reduceCtorEq, V.bool, V.i64, aUn, aBox, aLoad, aArrAddr, aFold, aEqV, chkAdd, effAdd, AOp.kind, chkAll, chkSee, zP.down, zQ.down, zR.down, simprocAttr]
            exact ⟨_, _, _, rfl, (fun h => by cases h), kk5.bump⟩
        · have d3 : decide ((vtm p : Int) ≤ 1099511627776) = false := by simp; omega
          have hv : vok p = false := by rw [hvk]; exact decide_eq_false (by omega)
          simp -implicitDefEqProofs (disch := first | exact nbf rfl | exact nbt rfl | (simp only [ne_eq, reduceCtorEq, not_false_eq_true]; done) | omega | (simp -implicitDefEqProofs only [zN.down] <;> omega) | fail) only [d0, d1, d2, d3, hv, XOp.kind, reduceCtorEq, V.bool, V.i64, aUn, aBox, aLoad, aArrAddr, aFold, aEqV, chkAdd, effAdd, AOp.kind, chkAll, chkSee, zP.down, zQ.down, zR.down, simprocAttr]
          exact ⟨_, _, _, rfl, (fun h => by cases h), kk5⟩
      · have d2 : decide ((vcnt p : Int) ≤ 4611686018427387904) = false := by simp; omega
        have hv : vok p = false := by rw [hvk]; exact decide_eq_false (by omega)
        simp -implicitDefEqProofs (disch := first | exact nbf rfl | exact nbt rfl | (simp only [ne_eq, reduceCtorEq, not_false_eq_true]; done) | omega | (simp -implicitDefEqProofs only [zN.down] <;> omega) | fail) only [d0, d1, d2, hv, XOp.kind, reduceCtorEq, V.bool, V.i64, aUn, aBox, aLoad, aArrAddr, aFold, aEqV, chkAdd, effAdd, AOp.kind, chkAll, chkSee, zP.down, zQ.down, zR.down, simprocAttr]
        exact ⟨_, _, _, rfl, (fun h => by cases h), kk5⟩
    · have d1 : decide ((vcnt p : Int) ≥ 1) = false := by simp; omega
      have hv : vok p = false := by rw [hvk]; exact decide_eq_false (by omega)
      simp -implicitDefEqProofs (disch := first | exact nbf rfl | exact nbt rfl | (simp only [ne_eq, reduceCtorEq, not_false_eq_true]; done) | omega | (simp -implicitDefEqProofs only [zN.down] <;> omega) | fail) only [d0, d1, hv, XOp.kind, reduceCtorEq, V.bool, V.i64, aUn, aBox, aLoad, aArrAddr, aFold, aEqV, chkAdd, effAdd, AOp.kind, chkAll, chkSee, zP.down, zQ.down, zR.down, simprocAttr]
      exact ⟨_, _, _, rfl, (fun h => by cases h), kk5⟩
  · have d0 : ((Rd.end' ((((Rd.mk p 0 0 0).go 8).go 8).go 1) : Int) == 0) = false := by
      simp only [beq_eq_false_iff_ne, ne_eq]
      have := mt end17.1 h17
      omega
    have hv : vok p = false := by rw [hvk]; exact decide_eq_false (by omega)
    simp -implicitDefEqProofs (disch := first | exact nbf rfl | exact nbt rfl | (simp only [ne_eq, reduceCtorEq, not_false_eq_true]; done) | omega | (simp -implicitDefEqProofs only [zN.down] <;> omega) | fail) only [d0, hv, XOp.kind, reduceCtorEq, V.bool, V.i64, aUn, aBox, aLoad, aArrAddr, aFold, aEqV, chkAdd, effAdd, AOp.kind, chkAll, chkSee, zP.down, zQ.down, zR.down, simprocAttr]
    exact ⟨_, _, _, rfl, (fun h => by cases h), kk5⟩
end Go.Proofs.Ytllkidpebjgkeaa.vt
namespace Go.Proofs.Ytllkidpebjgkeaa.vt
open Go.Ab fr dk
set_option maxRecDepth 100000
set_option maxHeartbeats 8000000
set_option linter.unusedSimpArgs false
set_option linter.unusedVariables false

/-- A box: the newest ballot, its count, its file, how many stand there, what broke it. -/
structure VB where
  t : Int
  w : Int
  c : Nat
  f : Nat
  n : Nat
  br : Int
def vcells (d : Nat) (x : VB) : List V := [.ptr d 0, .sc (.int .i64 x.t), .sc (.int .i64 x.w), .sc (.int .u64 x.c), .sc (.int .i64 x.f), .sc (.int .i64 x.n), .sc (.int .i64 x.br)]
def BR (σ : St) (b d : Nat) (x : VB) : Prop := σ.get b = some (.cells (vcells d x))
def x0 : VB := ⟨0, -1, 0, 1, 8, 0⟩
def vadd (f : Nat) (x : VB) (p : List UInt8) : VB := if vcnt p > x.c then { x with t := vtm p, w := (vwho p : Int) - 1, c := vcnt p, f := f } else x
def vfold (f : Nat) (x : VB) (l : List (List UInt8)) : VB := l.foldl (vadd f) x
def vl (s : List UInt8) : List (List UInt8) := (scan s).takeWhile vok
def vin (x x1 : VB) (n : Nat) : VB := if x1.c > x.c then { x1 with n := n } else x1
def vfile (M : DM) (x : VB) (f : Nat) : DM × VB × Int :=
  if (M.read f).2 = 4 then (M, x, 0) else if (M.read f).2 ≠ 0 then (M, x, (M.read f).2)
  else if flen (vl (M.read f).1) < (M.read f).1.length then
    (if (M.change f ⟨2, [], flen (vl (M.read f).1)⟩).2 ≠ 0 then ((M.change f ⟨2, [], flen (vl (M.read f).1)⟩).1, x, (M.change f ⟨2, [], flen (vl (M.read f).1)⟩).2)
    else (((M.change f ⟨2, [], flen (vl (M.read f).1)⟩).1.sync f).1, vin x (vfold f x (vl (M.read f).1)) (vl (M.read f).1).length, ((M.change f ⟨2, [], flen (vl (M.read f).1)⟩).1.sync f).2))
  else (M, vin x (vfold f x (vl (M.read f).1)) (vl (M.read f).1).length, 0)
/-- The files that are left. -/
def vrest : Nat → DM → VB → DM × VB × Int
  | 0, M, x => (M, x, 0)
  | k + 1, M, x => if (vfile M x (1 - k)).2.2 ≠ 0 then vfile M x (1 - k) else vrest k (vfile M x (1 - k)).1 (vfile M x (1 - k)).2.1
def vopen (M : DM) : DM × VB × Int := if M.power = 0 then (M, x0, 40) else vrest 2 M x0
theorem vfile_ok {M : DM} {B : Nat} (h : M.Ok B) (x : VB) (f : Nat) : (vfile M x f).1.Ok (B + 2) := by
  have h1 := h.change (f := (f : Int)) (c := ⟨2, [], flen (vl (M.read f).1)⟩) (.inr (.inl rfl))
  unfold vfile
  repeat' split
  all_goals first | exact h.more (by omega) | exact h1.more (by omega) | exact h1.sync _

theorem vfold_snoc (f : Nat) (x : VB) (l : List (List UInt8)) (p : List UInt8) : vfold f x (l ++ [p]) = vadd f (vfold f x l) p := by simp [vfold]
theorem vadd_c (f : Nat) (x : VB) (p : List UInt8) : x.c ≤ (vadd f x p).c := by unfold vadd; split <;> (try dsimp only) <;> omega
theorem vfold_c (f : Nat) (l : List (List UInt8)) : ∀ x : VB, x.c ≤ (vfold f x l).c := by
  induction l with
  | nil => intro x; exact Nat.le_refl _
  | cons p l ih => intro x; exact Nat.le_trans (vadd_c f x p) (ih _)
theorem take_while {l : List (List UInt8)} {i : Nat} (h1 : ∀ p ∈ l.take i, vok p = true) (h2 : i = l.length ∨ ∃ h : i < l.length, vok l[i] = false) : l.takeWhile vok = l.take i := by
  induction l generalizing i with
  | nil => simp
  | cons p l ih =>
    cases i with
    | zero =>
      rcases h2 with h2 | ⟨h, h2⟩
      · simp at h2
      · simp only [List.getElem_cons_zero] at h2
        simp [h2]
    | succ i =>
      have hp := h1 p (by simp)
      rw [List.take_succ_cons, List.takeWhile_cons, hp]
      simp only [if_true]
      rw [ih (fun q hq => h1 q (by rw [List.take_succ_cons]; exact List.mem_cons_of_mem _ hq))]
      rcases h2 with h2 | ⟨h, h2⟩
      · left; simpa using h2
      · right; exact ⟨by simpa using h, by simpa using h2⟩

/-- What stands while a file is gone over. -/
structure VJ (b bx d o4 o5 g8 g9 g10 : Nat) (s : List UInt8) (f : Nat) (x : VB) (σs : St) (i : Nat) (σ : St) : Prop where
  bs : σ.get b = some (.cells [.str s])
  br : BR σ bx d (vfold f x ((scan s).take i))
  q4 : σ.get o4 = some (.cells [.ptr bx 0])
  q5 : σ.get o5 = some (.cells [.sc (.int .i64 f)])
  q8 : σ.get g8 = some (.cells [.sc (.int .i64 (flen ((scan s).take i) : Nat))])
  q9 : σ.get g9 = some (.cells [.sc (.int .i64 i)])
  q10 : σ.get g10 = some (.cells [.sc (.bool (decide ((vfold f x ((scan s).take i)).c > x.c)))])
  ok : ∀ p ∈ (scan s).take i, vok p = true
  kp : Kept (fun o => o = bx ∨ g8 ≤ o) σs σ
theorem VJ.kept {b bx d o4 o5 g8 g9 g10 : Nat} {s : List UInt8} {f : Nat} {x : VB} {σs : St} {i : Nat} {σ σ' : St} (h : VJ b bx d o4 o5 g8 g9 g10 s f x σs i σ) {X : Nat → Prop} (k : Kept X σ σ') (hX : ∀ o, X o → b < o) (hb : bx < b ∧ o4 < b ∧ o5 < b ∧ g8 < b ∧ g9 < b ∧ g10 < b) : VJ b bx d o4 o5 g8 g9 g10 s f x σs i σ' := by
  have no : ∀ {o}, o ≤ b → ¬ X o := fun h hx => by have := hX _ hx; omega
  refine ⟨k.get _ _ (no (Nat.le_refl _)) h.bs, k.get _ _ (no (by omega)) h.br, k.get _ _ (no (by omega)) h.q4, k.get _ _ (no (by omega)) h.q5, k.get _ _ (no (by omega)) h.q8, k.get _ _ (no (by omega)) h.q9, k.get _ _ (no (by omega)) h.q10, h.ok, h.kp.trans (k.sub fun o ho => .inr (by have := hX o ho; omega))⟩

theorem open_ok (k : Nat) (ys : YlF) (σ : St) (d : Nat) (M : DM) (h : DR σ d M) {B : Nat} (hm : M.Ok B) (hB : B ≤ 999000) (hk : 1200000 ≤ k) :
    W (callY Tab.tb (k + 6) ys 12 [.ptr d 0] σ) fun r => ∃ b, r.1 = .tup [if (vopen M).2.2 = 0 then .ptr b 0 else .sc .nilP, .sc (.int .i64 (vopen M).2.2)] ∧ ((vopen M).2.2 = 0 → BR r.2 b d (vopen M).2.1 ∧ σ.n ≤ b) ∧ DR r.2 d (vopen M).1 ∧ Kept (· = d) σ r.2 := by
  rw [s_call (af := Tab.b12) rfl (Nat.le_of_ble_eq_true rfl)]
  have hon := fun σ h => on_ok (k + 4) ys σ d M h
  have hrd := fun σ M f h => dk.read_ok (k + 3) ys σ d M f h
  have hall := fun σ s => all_ok (k + 4) ys σ s
  have hgen := fun ys σ b y s hs hl I Q a1 a2 a3 a4 => all1_ok k ys σ b y s hs hl I Q a1 a2 a3 a4
  have hdec := fun ys σ p hp => decode_ok (k + 1) ys σ p hp (by omega)
  have hcut := fun σ M f n h B hm hB => cut_ok (B := B) (k + 2) ys σ d M f n h hm hB
  have hsy := fun σ M f h B hm hB => sync_ok (B := B) (k + 3) ys σ d M f h hm hB
  generalize callY Tab.tb (k + 5) = cy at hon hrd hall hgen hdec hcut hsy ⊢
  have hd := h.lt
  unfold vopen
  by_cases hp : M.power = 0
  · have d1 : (M.power != 0) = false := by simp [hp]
    have ho := hon σ h
    rw [if_pos hp]
    simp -implicitDefEqProofs (disch := first | exact nbf rfl | exact nbt rfl | (simp only [ne_eq, reduceCtorEq, not_false_eq_true]; done) | omega | (simp -implicitDefEqProofs only [zN.down] <;> omega) | fail) only [Tab.b12, dk.pnil, ho, d1, XOp.kind, reduceCtorEq, V.bool, V.i64, aUn, aBox, aLoad, aArrAddr, aFold, chkAdd, effAdd, AOp.kind, chkAll, chkSee, zP.down, zQ.down, zR.down, simprocAttr]
    exact ⟨0, fun h => h.elim, h, Kept.refl _ _⟩
  have d1 : (M.power != 0) = true := by simp [hp]
  have ho := hon σ h
  rw [if_neg hp]
  simp -implicitDefEqProofs (disch := first | exact nbf rfl | exact nbt rfl | (simp only [ne_eq, reduceCtorEq, not_false_eq_true]; done) | omega | (simp -implicitDefEqProofs only [zN.down] <;> omega) | fail) only [Tab.b12, dk.pnil, ho, d1, XOp.kind, reduceCtorEq, V.bool, V.i64, aUn, aBox, aLoad, aArrAddr, aFold, chkAdd, effAdd, AOp.kind, chkAll, chkSee, zP.down, zQ.down, zR.down, simprocAttr]
  repeat (first | refine w_fin ?_ | refine w_seq ?_ | refine w_block ?_ | refine w_reg ?_ | refine w_op ?_ | refine w_dop ?_)
  -- what comes of it
  generalize hA : vrest 2 M x0 = A
  have hx0 : [V.ptr d 0, .sc (.int .i64 0), .sc (.int .i64 (-1)), .sc (.int .u64 0), .sc (.int .i64 1), .sc (.int .i64 8), .sc (.int .i64 0)] = vcells d x0 := rfl
  rw [hx0]
  have g0 : (((((σ.push (.cells (vcells d x0))).push (.cells [.sc .nilP])).put (σ.n + 1) (some (.cells [.ptr σ.n 0]))).push (.cells [.sc (.int .i64 0)])).put (σ.n + 1 + 1) (some (.cells [.sc (.int .i64 0)]))).get σ.n = some (.cells (vcells d x0)) := get_put_other (by simp) (by omega) (get_push_lt (get_put_other (by simp) (by omega) (get_push_lt get_push_self)))
  have g4 : (((((σ.push (.cells (vcells d x0))).push (.cells [.sc .nilP])).put (σ.n + 1) (some (.cells [.ptr σ.n 0]))).push (.cells [.sc (.int .i64 0)])).put (σ.n + 1 + 1) (some (.cells [.sc (.int .i64 0)]))).get (σ.n + 1) = some (.cells [.ptr σ.n 0]) := get_put_other (by simp) (by omega) (get_push_lt (get_put_self (get_push_eq (x := .cells [.sc .nilP]) (by simp))))
  have g5 : (((((σ.push (.cells (vcells d x0))).push (.cells [.sc .nilP])).put (σ.n + 1) (some (.cells [.ptr σ.n 0]))).push (.cells [.sc (.int .i64 0)])).put (σ.n + 1 + 1) (some (.cells [.sc (.int .i64 0)]))).get (σ.n + 2) = some (.cells [.sc (.int .i64 0)]) := get_put_self (get_push_eq (x := .cells [.sc (.int .i64 0)]) (by simp))
  have k0 : Kept (· = d) σ (((((σ.push (.cells (vcells d x0))).push (.cells [.sc .nilP])).put (σ.n + 1) (some (.cells [.ptr σ.n 0]))).push (.cells [.sc (.int .i64 0)])).put (σ.n + 1 + 1) (some (.cells [.sc (.int .i64 0)]))) := (((((Kept.refl _ _).push _).push _).put (.inr (by omega)) (by simp) _).push _).put (.inr (by omega)) (by simp) _
  have h0 : DR (((((σ.push (.cells (vcells d x0))).push (.cells [.sc .nilP])).put (σ.n + 1) (some (.cells [.ptr σ.n 0]))).push (.cells [.sc (.int .i64 0)])).put (σ.n + 1 + 1) (some (.cells [.sc (.int .i64 0)]))) d M := h.kept ((((((Kept.refl noX σ).push _).push _).put (.inr (by omega)) (by simp) _).push _).put (.inr (by omega)) (by simp) _) (fun h => h)
  generalize (((((σ.push (.cells (vcells d x0))).push (.cells [.sc .nilP])).put (σ.n + 1) (some (.cells [.ptr σ.n 0]))).push (.cells [.sc (.int .i64 0)])).put (σ.n + 1 + 1) (some (.cells [.sc (.int .i64 0)]))) = σ1 at *
  refine W.mono (Q := fun r => (∃ (ρ : Env) (σ' : St), r = ((.exit 0 : Ex), ρ, σ') ∧ A.2.2 = 0 ∧ ρ 4 = .ptr (σ.n + 1) 0 ∧ σ'.get (σ.n + 1) = some (.cells [.ptr σ.n 0]) ∧ BR σ' σ.n d A.2.1 ∧ DR σ' d A.1 ∧ Kept (· = d) σ σ') ∨ (∃ (ρ : Env) (σ' : St), r = ((.ret : Ex), ρ, σ') ∧ A.2.2 ≠ 0 ∧ ρ 2 = .sc .nilP ∧ ρ 3 = .sc (.int .i64 A.2.2) ∧ DR σ' d A.1 ∧ Kept (· = d) σ σ')) ?_ ?_
  · refine w_loop (fun m ρ σ' => ∃ (j o5 : Nat) (M' : DM) (x : VB), m = 2 - j ∧ j ≤ 2 ∧ vrest (2 - j) M' x = A ∧ M'.Ok (B + 2 * j) ∧ DR σ' d M' ∧ BR σ' σ.n d x ∧ σ'.get (σ.n + 1) = some (.cells [.ptr σ.n 0]) ∧ σ.n + 1 < o5 ∧ σ'.get o5 = some (.cells [.sc (.int .i64 j)]) ∧ Kept (· = d) σ σ' ∧ ρ 0 = .ptr d 0 ∧ ρ 4 = .ptr (σ.n + 1) 0 ∧ ρ 5 = .ptr o5 0) 2 (by omega) ?_ ?_
    · refine ⟨0, σ.n + 2, M, x0, rfl, by omega, hA, hm, h0, g0, g4, by omega, g5, k0, ?_, ?_, ?_⟩
      all_goals first | rfl | (simp -implicitDefEqProofs (disch := first | exact nbf rfl | exact nbt rfl | (simp only [ne_eq, reduceCtorEq, not_false_eq_true]; done) | omega | (simp -implicitDefEqProofs only [zN.down] <;> omega) | fail) only [XOp.kind, reduceCtorEq, V.bool, V.i64, aUn, aBox, aLoad, aArrAddr, aFold, aEqV, chkAdd, effAdd, AOp.kind, chkAll, chkSee, zP.down, zQ.down, zR.down, simprocAttr]; done) | (simp -implicitDefEqProofs (disch := first | exact nbf rfl | exact nbt rfl | (simp only [ne_eq, reduceCtorEq, not_false_eq_true]; done) | omega | (simp -implicitDefEqProofs only [zN.down] <;> omega) | fail) only [XOp.kind, reduceCtorEq, V.bool, V.i64, aUn, aBox, aLoad, aArrAddr, aFold, aEqV, chkAdd, effAdd, AOp.kind, chkAll, chkSee, zP.down, zQ.down, zR.down, simprocAttr]; rfl)
    · rintro m ρ σ2 ⟨j, o5, M', x, hm2, hj, hrest, hM, hdr, hbr, q4, ho5, q5, kp, e0, e4, e5⟩
      by_cases hl : j < 2
      · have c1 : decide ((j : Int) ≤ 1) = true := by simp; omega
        have lt5 := St.get_lt q5
        have ltb := St.get_lt hbr
        have rd := hrd σ2 M' j hdr
        have hrl : (M'.read j).1.length ≤ 1048576 := by
          unfold DM.read
          repeat' split
          all_goals first | (simp; done) | skip
          rename_i h1 _
          rw [see_in (by omega) (by omega)]
          exact (hM.f _ (by omega)).1.seen
        have hv : vrest (2 - j) M' x = if (vfile M' x j).2.2 ≠ 0 then vfile M' x j else vrest (2 - (j + 1)) (vfile M' x j).1 (vfile M' x j).2.1 := by
          rw [show 2 - j = (2 - (j + 1)) + 1 by omega, vrest, show 1 - (2 - (j + 1)) = j by omega]
        rw [hrest] at hv
        have hMf := vfile_ok hM x j
        simp -implicitDefEqProofs (disch := first | exact nbf rfl | exact nbt rfl | (simp only [ne_eq, reduceCtorEq, not_false_eq_true]; done) | omega | (simp -implicitDefEqProofs only [zN.down] <;> omega) | fail) only [c1, e0, e4, e5, q5, rd, XOp.kind, reduceCtorEq, V.bool, V.i64, aUn, aBox, aLoad, aArrAddr, aFold, aEqV, chkAdd, effAdd, AOp.kind, chkAll, chkSee, zP.down, zQ.down, zR.down, simprocAttr]
        refine w_seq ?_
        refine W.mono (Q := fun r => (∃ (ρ' : Env) (σ' : St), r = ((.normal : Ex), ρ', σ') ∧ (vfile M' x j).2.2 = 0 ∧ DR σ' d (vfile M' x j).1 ∧ BR σ' σ.n d (vfile M' x j).2.1 ∧ σ'.get (σ.n + 1) = some (.cells [.ptr σ.n 0]) ∧ σ'.get o5 = some (.cells [.sc (.int .i64 j)]) ∧ Kept (· = d) σ σ' ∧ ρ' 0 = .ptr d 0 ∧ ρ' 4 = .ptr (σ.n + 1) 0 ∧ ρ' 5 = .ptr o5 0) ∨ (∃ (ρ' : Env) (σ' : St), r = ((.ret : Ex), ρ', σ') ∧ (vfile M' x j).2.2 ≠ 0 ∧ ρ' 2 = .sc .nilP ∧ ρ' 3 = .sc (.int .i64 (vfile M' x j).2.2) ∧ DR σ' d (vfile M' x j).1 ∧ Kept (· = d) σ σ')) ?_ ?_
        · clear hv hMf hrest
          unfold vfile
          have hcut1 := fun σ h => hcut σ M' j (flen (vl (M'.read j).1) : Nat) h (B + 2 * j) hM (by omega)
          have hsy1 := fun σ M'' h hM'' => hsy σ M'' j h (B + 2 * j + 1) hM'' (by omega)
          have hMc := hM.change (f := (j : Int)) (c := ⟨2, [], flen (vl (M'.read j).1)⟩) (.inr (.inl rfl))
          generalize M'.read j = rr at *
          by_cases r4 : rr.2 = 4
          · have d4 : (rr.2 == 4) = true := by simp [r4]
            rw [if_pos r4]
            simp -implicitDefEqProofs (disch := first | exact nbf rfl | exact nbt rfl | (simp only [ne_eq, reduceCtorEq, not_false_eq_true]; done) | omega | (simp -implicitDefEqProofs only [zN.down] <;> omega) | fail) only [d4, XOp.kind, reduceCtorEq, V.bool, V.i64, aUn, aBox, aLoad, aArrAddr, aFold, aEqV, chkAdd, effAdd, AOp.kind, chkAll, chkSee, zP.down, zQ.down, zR.down, simprocAttr]
            left
            refine ⟨_, _, rfl, hdr.kept ((Kept.refl noX σ2).bump.bump) (fun h => h), by unfold BR at *; rw [St.get_bump, St.get_bump]; exact hbr, by rw [St.get_bump, St.get_bump]; exact q4, by rw [St.get_bump, St.get_bump]; exact q5, kp.bump.bump, ?_, ?_, ?_⟩
            all_goals (simp -implicitDefEqProofs (disch := first | exact nbf rfl | exact nbt rfl | (simp only [ne_eq, reduceCtorEq, not_false_eq_true]; done) | omega | (simp -implicitDefEqProofs only [zN.down] <;> omega) | fail) only [e0, e4, e5, XOp.kind, reduceCtorEq, V.bool, V.i64, aUn, aBox, aLoad, aArrAddr, aFold, aEqV, chkAdd, effAdd, AOp.kind, chkAll, chkSee, zP.down, zQ.down, zR.down, simprocAttr]; done)
          have d4 : (rr.2 == 4) = false := by simp [r4]
          rw [if_neg r4]
          by_cases r0 : rr.2 = 0
          · have d0 : (rr.2 != 0) = false := by simp [r0]
            rw [if_neg (by simp [r0])]
            simp -implicitDefEqProofs (disch := first | exact nbf rfl | exact nbt rfl | (simp only [ne_eq, reduceCtorEq, not_false_eq_true]; done) | omega | (simp -implicitDefEqProofs only [zN.down] <;> omega) | fail) only [d4, d0, hall, XOp.kind, reduceCtorEq, V.bool, V.i64, aUn, aBox, aLoad, aArrAddr, aFold, aEqV, chkAdd, effAdd, AOp.kind, chkAll, chkSee, zP.down, zQ.down, zR.down, simprocAttr]
            repeat (first | refine w_fin ?_ | refine w_seq ?_ | refine w_block ?_ | refine w_reg ?_ | refine w_op ?_ | refine w_dop ?_)
            have hS : ∃ S : St, S = (((((((σ2.bump.bump.push (.cells [.sc (.int .i64 0)])).push (.cells [.sc (.int .i64 0)])).push (.cells [.sc (.bool false)])).put (σ2.n + 2) (some (.cells [.sc (.int .i64 0)]))).put (σ2.n + 3) (some (.cells [.sc (.int .i64 0)]))).put (σ2.n + 4) (some (.cells [.sc (.bool false)]))).push (.cells [.str rr.1])) := ⟨_, rfl⟩
            obtain ⟨S, hS⟩ := hS
            have kS : Kept noX σ2 S := by
              subst hS
              refine Kept.push ?_ _
              refine Kept.put ?_ (.inr (by omega)) (by simp) _
              refine Kept.put ?_ (.inr (by omega)) (by simp) _
              refine Kept.put ?_ (.inr (by omega)) (by simp) _
              exact ((((Kept.refl _ _).bump.bump).push _).push _).push _
            have s8 : S.get (σ2.n + 2) = some (.cells [.sc (.int .i64 0)]) := by subst hS; simp -implicitDefEqProofs (disch := first | exact nbf rfl | exact nbt rfl | (simp only [ne_eq, reduceCtorEq, not_false_eq_true]; done) | omega | (simp -implicitDefEqProofs only [zN.down] <;> omega) | fail) only [XOp.kind, reduceCtorEq, V.bool, V.i64, aUn, aBox, aLoad, aArrAddr, aFold, aEqV, chkAdd, effAdd, AOp.kind, chkAll, chkSee, zP.down, zQ.down, zR.down, simprocAttr]
            have s9 : S.get (σ2.n + 3) = some (.cells [.sc (.int .i64 0)]) := by subst hS; simp -implicitDefEqProofs (disch := first | exact nbf rfl | exact nbt rfl | (simp only [ne_eq, reduceCtorEq, not_false_eq_true]; done) | omega | (simp -implicitDefEqProofs only [zN.down] <;> omega) | fail) only [XOp.kind, reduceCtorEq, V.bool, V.i64, aUn, aBox, aLoad, aArrAddr, aFold, aEqV, chkAdd, effAdd, AOp.kind, chkAll, chkSee, zP.down, zQ.down, zR.down, simprocAttr]
            have s10 : S.get (σ2.n + 4) = some (.cells [.sc (.bool false)]) := by subst hS; simp -implicitDefEqProofs (disch := first | exact nbf rfl | exact nbt rfl | (simp only [ne_eq, reduceCtorEq, not_false_eq_true]; done) | omega | (simp -implicitDefEqProofs only [zN.down] <;> omega) | fail) only [XOp.kind, reduceCtorEq, V.bool, V.i64, aUn, aBox, aLoad, aArrAddr, aFold, aEqV, chkAdd, effAdd, AOp.kind, chkAll, chkSee, zP.down, zQ.down, zR.down, simprocAttr]
            have sb : S.get (σ2.n + 5) = some (.cells [.str rr.1]) := by subst hS; simp -implicitDefEqProofs (disch := first | exact nbf rfl | exact nbt rfl | (simp only [ne_eq, reduceCtorEq, not_false_eq_true]; done) | omega | (simp -implicitDefEqProofs only [zN.down] <;> omega) | fail) only [XOp.kind, reduceCtorEq, V.bool, V.i64, aUn, aBox, aLoad, aArrAddr, aFold, aEqV, chkAdd, effAdd, AOp.kind, chkAll, chkSee, zP.down, zQ.down, zR.down, simprocAttr]
            have nS : S.n = σ2.n + 6 := by subst hS; simp -implicitDefEqProofs (disch := first | exact nbf rfl | exact nbt rfl | (simp only [ne_eq, reduceCtorEq, not_false_eq_true]; done) | omega | (simp -implicitDefEqProofs only [zN.down] <;> omega) | fail) only [XOp.kind, reduceCtorEq, V.bool, V.i64, aUn, aBox, aLoad, aArrAddr, aFold, aEqV, chkAdd, effAdd, AOp.kind, chkAll, chkSee, zP.down, zQ.down, zR.down, simprocAttr]
            rw [← hS]
            clear hS
            generalize hs1 : rr.1 = s at *
            have sep : σ.n < σ2.n + 5 ∧ σ.n + 1 < σ2.n + 5 ∧ o5 < σ2.n + 5 ∧ σ2.n + 2 < σ2.n + 5 ∧ σ2.n + 3 < σ2.n + 5 ∧ σ2.n + 4 < σ2.n + 5 := by omega
            refine W.mono (Q := fun r => ∃ (ρ' : Env) (σ3 : St) (i : Nat), (r = ((.normal : Ex), ρ', σ3) ∨ r = ((.exit 2 : Ex), ρ', σ3)) ∧ i ≤ (scan s).length ∧ vl s = (scan s).take i ∧ VJ (σ2.n + 5) σ.n d (σ.n + 1) o5 (σ2.n + 2) (σ2.n + 3) (σ2.n + 4) s j x S i σ3 ∧ ρ' 0 = .ptr d 0 ∧ ρ' 4 = .ptr (σ.n + 1) 0 ∧ ρ' 5 = .ptr o5 0 ∧ ρ' 6 = .str s ∧ ρ' 8 = .ptr (σ2.n + 2) 0 ∧ ρ' 9 = .ptr (σ2.n + 3) 0 ∧ ρ' 10 = .ptr (σ2.n + 4) 0) ?_ ?_
            · refine w_range (g := 49) (cap := [.ptr (σ2.n + 5) 0]) (by simp -implicitDefEqProofs (disch := first | exact nbf rfl | exact nbt rfl | (simp only [ne_eq, reduceCtorEq, not_false_eq_true]; done) | omega | (simp -implicitDefEqProofs only [zN.down] <;> omega) | fail) only [XOp.kind, reduceCtorEq, V.bool, V.i64, aUn, aBox, aLoad, aArrAddr, aFold, aEqV, chkAdd, effAdd, AOp.kind, chkAll, chkSee, zP.down, zQ.down, zR.down, simprocAttr]) ?_
              intro ys' hys
              rw [nS] at hys ⊢
              have hl0 : (S.push (.loop .ready none)).get (σ2.n + 6) = some (.loop .ready none) := get_push_eq nS.symm
              have h00 : decide (x.c > x.c) = false := by simp
              have hJ0 : VJ (σ2.n + 5) σ.n d (σ.n + 1) o5 (σ2.n + 2) (σ2.n + 3) (σ2.n + 4) s j x S 0 (S.push (.loop .ready none)) := by
                have kk := kS.push (.loop .ready none)
                refine ⟨get_push_lt sb, kk.get _ _ (fun h => h) hbr, kk.get _ _ (fun h => h) q4, kk.get _ _ (fun h => h) q5, by simpa [flen] using get_push_lt s8, get_push_lt s9, ?_, by simp, (Kept.refl _ _).push _⟩
                have : decide ((vfold j x ((scan s).take 0)).c > x.c) = false := by simp [vfold]
                rw [this]
                exact get_push_lt s10
              refine (hgen ys' (S.push (.loop .ready none)) (σ2.n + 5) (σ2.n + 6) s (by omega) (by omega) (fun i s' => VJ (σ2.n + 5) σ.n d (σ.n + 1) o5 (σ2.n + 2) (σ2.n + 3) (σ2.n + 4) s j x S i s' ∧ s'.get (σ2.n + 6) = some (.loop .ready none)) (fun s' => ∃ i, ∃ h : i < (scan s).length, vok (scan s)[i] = false ∧ VJ (σ2.n + 5) σ.n d (σ.n + 1) o5 (σ2.n + 2) (σ2.n + 3) (σ2.n + 4) s j x S i s' ∧ s'.get (σ2.n + 6) = some (.loop .done (some (.exit 2)))) (fun i s' h => h.1.bs) ⟨hJ0, hl0⟩ (fun i s' s'' h k => ⟨h.1.kept k (fun o h => h.elim) sep, k.get _ _ (fun h => h) h.2⟩) ?_).mono ?_
              · rintro i hi τ ⟨hJ, lp⟩
                rw [hys]
                refine w_round lp rfl ?_
                have lp2 := St.get_lt lp
                have hsl := flen_scan _ s (Nat.le_refl _)
                have hfl2 := flen_take_le (scan s) (i + 1)
                have hft := flen_take_succ hi
                have htk : (scan s).take i ++ [(scan s)[i]] = (scan s).take (i + 1) := by rw [List.take_add_one, List.getElem?_eq_getElem hi]; rfl
                have hln := len_flen (scan s)
                have hvs := vfold_snoc j x ((scan s).take i) (scan s)[i]
                rw [htk] at hvs
                have hoki : vok (scan s)[i] = true → ∀ q ∈ (scan s).take (i + 1), vok q = true := fun hk q hq => by
                  rw [← htk] at hq
                  rcases List.mem_append.1 hq with h1 | h1
                  · exact hJ.ok q h1
                  · simp at h1; subst h1; exact hk
                generalize hpi : (scan s)[i] = p at *
                simp -implicitDefEqProofs (disch := first | exact nbf rfl | exact nbt rfl | (simp only [ne_eq, reduceCtorEq, not_false_eq_true]; done) | omega | (simp -implicitDefEqProofs only [zN.down] <;> omega) | fail) only [bind2, lp, XOp.kind, reduceCtorEq, V.bool, V.i64, aUn, aBox, aLoad, aArrAddr, aFold, aEqV, chkAdd, effAdd, AOp.kind, chkAll, chkSee, zP.down, zQ.down, zR.down, simprocAttr]
                repeat (first | refine w_fin ?_ | refine w_seq ?_ | refine w_block ?_ | refine w_reg ?_ | refine w_op ?_ | refine w_dop ?_)
                have kb : Kept (fun o => σ2.n + 5 < o) τ (τ.put (σ2.n + 6) (some (.loop .busy none))) := (Kept.refl _ _).put (.inl (by omega)) lp2 _
                have lpb : (τ.put (σ2.n + 6) (some (.loop .busy none))).get (σ2.n + 6) = some (.loop .busy none) := get_put_self lp
                have hJb := hJ.kept kb (fun o h => h) sep
                refine (hdec ys (τ.put (σ2.n + 6) (some (.loop .busy none))) p (by omega)).mono ?_
                rintro ⟨_, τ2⟩ ⟨c, t, w, rfl, hv, kd⟩
                dsimp only at kd
                have hJ2 := hJb.kept kd (fun o h => h.elim) sep
                have lp3 := kd.get _ _ (fun h => h) lpb
                have lp4 := St.get_lt lp3
                cases hk : vok p with
                | false =>
                  simp -implicitDefEqProofs (disch := first | exact nbf rfl | exact nbt rfl | (simp only [ne_eq, reduceCtorEq, not_false_eq_true]; done) | omega | (simp -implicitDefEqProofs only [zN.down] <;> omega) | fail) only [hk, lp3, XOp.kind, reduceCtorEq, V.bool, V.i64, aUn, aBox, aLoad, aArrAddr, aFold, aEqV, chkAdd, effAdd, AOp.kind, chkAll, chkSee, zP.down, zQ.down, zR.down, simprocAttr]
                  have kz : Kept (fun o => σ2.n + 5 < o) τ2 (τ2.bump.put (σ2.n + 6) (some (.loop .done (some (.exit 2))))) := ((Kept.refl _ _).bump).put (.inl (by omega)) (by simp; omega) _
                  refine ⟨⟨_, _, rfl⟩, fun h => h.elim, fun _ => .inr ⟨i, hi, by rw [hpi]; exact hk, hJ2.kept kz (fun o h => h) sep⟩⟩
                | true =>
                  obtain ⟨rfl, rfl, rfl⟩ := hv hk
                  have gb := hJ2.br
                  unfold BR vcells at gb
                  have g4' := hJ2.q4
                  have g5' := hJ2.q5
                  have g8' := hJ2.q8
                  have g9' := hJ2.q9
                  have g10' := hJ2.q10
                  have l1 := St.get_lt gb
                  have l2 := St.get_lt g4'
                  have l3 := St.get_lt g5'
                  have l8 := St.get_lt g8'
                  have l9 := St.get_lt g9'
                  have l10 := St.get_lt g10'
                  have hc0 := vfold_c j ((scan s).take i) x
                  have u1 : IntKind.i64.wrap ((flen ((scan s).take i) : Int) + 12) = (flen ((scan s).take i) : Int) + 12 := wrap64 (by omega) (by omega)
                  have u2 : IntKind.i64.wrap ((flen ((scan s).take i) : Int) + 12 + (p.length : Int)) = ((flen ((scan s).take (i + 1)) : Nat) : Int) := by rw [wrap64 (by omega) (by omega), hft]; omega
                  have u3 : IntKind.i64.wrap ((i : Int) + 1) = ((i + 1 : Nat) : Int) := wrap64 (by omega) (by omega)
                  generalize hxi : vfold j x ((scan s).take i) = xi at *
                  unfold vadd at hvs
                  by_cases hgt : vcnt p > xi.c
                  · have d1 : decide ((vcnt p : Int) > (xi.c : Int)) = true := by simp; omega
                    rw [if_pos hgt] at hvs
                    simp -implicitDefEqProofs (disch := first | exact nbf rfl | exact nbt rfl | (simp only [ne_eq, reduceCtorEq, not_false_eq_true]; done) | omega | (simp -implicitDefEqProofs only [zN.down] <;> omega) | fail) only [hk, lp3, gb, g4', g5', g8', g9', g10', u1, u2, u3, d1, e4, e5, e0, XOp.kind, reduceCtorEq, V.bool, V.i64, aUn, aBox, aLoad, aArrAddr, aFold, aEqV, chkAdd, effAdd, AOp.kind, chkAll, chkSee, zP.down, zQ.down, zR.down, simprocAttr]
                    refine ⟨⟨_, _, rfl⟩, fun _ => .inl ⟨?_, ?_, ?_, ?_, ?_, ?_, ?_, hoki hk, hJ2.kp.trans ?_⟩, fun h => h.elim⟩
                    · have := hJ2.bs
                      simp -implicitDefEqProofs (disch := first | exact nbf rfl | exact nbt rfl | (simp only [ne_eq, reduceCtorEq, not_false_eq_true]; done) | omega | (simp -implicitDefEqProofs only [zN.down] <;> omega) | fail) only [this, XOp.kind, reduceCtorEq, V.bool, V.i64, aUn, aBox, aLoad, aArrAddr, aFold, aEqV, chkAdd, effAdd, AOp.kind, chkAll, chkSee, zP.down, zQ.down, zR.down, simprocAttr]
                    · unfold BR
                      rw [hvs]
                      simp -implicitDefEqProofs (disch := first | exact nbf rfl | exact nbt rfl | (simp only [ne_eq, reduceCtorEq, not_false_eq_true]; done) | omega | (simp -implicitDefEqProofs only [zN.down] <;> omega) | fail) only [vcells, XOp.kind, reduceCtorEq, V.bool, V.i64, aUn, aBox, aLoad, aArrAddr, aFold, aEqV, chkAdd, effAdd, AOp.kind, chkAll, chkSee, zP.down, zQ.down, zR.down, simprocAttr]
                    · simp -implicitDefEqProofs (disch := first | exact nbf rfl | exact nbt rfl | (simp only [ne_eq, reduceCtorEq, not_false_eq_true]; done) | omega | (simp -implicitDefEqProofs only [zN.down] <;> omega) | fail) only [g4', XOp.kind, reduceCtorEq, V.bool, V.i64, aUn, aBox, aLoad, aArrAddr, aFold, aEqV, chkAdd, effAdd, AOp.kind, chkAll, chkSee, zP.down, zQ.down, zR.down, simprocAttr]
                    · simp -implicitDefEqProofs (disch := first | exact nbf rfl | exact nbt rfl | (simp only [ne_eq, reduceCtorEq, not_false_eq_true]; done) | omega | (simp -implicitDefEqProofs only [zN.down] <;> omega) | fail) only [g5', XOp.kind, reduceCtorEq, V.bool, V.i64, aUn, aBox, aLoad, aArrAddr, aFold, aEqV, chkAdd, effAdd, AOp.kind, chkAll, chkSee, zP.down, zQ.down, zR.down, simprocAttr]
                    · simp -implicitDefEqProofs (disch := first | exact nbf rfl | exact nbt rfl | (simp only [ne_eq, reduceCtorEq, not_false_eq_true]; done) | omega | (simp -implicitDefEqProofs only [zN.down] <;> omega) | fail) only [XOp.kind, reduceCtorEq, V.bool, V.i64, aUn, aBox, aLoad, aArrAddr, aFold, aEqV, chkAdd, effAdd, AOp.kind, chkAll, chkSee, zP.down, zQ.down, zR.down, simprocAttr]
                    · simp -implicitDefEqProofs (disch := first | exact nbf rfl | exact nbt rfl | (simp only [ne_eq, reduceCtorEq, not_false_eq_true]; done) | omega | (simp -implicitDefEqProofs only [zN.down] <;> omega) | fail) only [XOp.kind, reduceCtorEq, V.bool, V.i64, aUn, aBox, aLoad, aArrAddr, aFold, aEqV, chkAdd, effAdd, AOp.kind, chkAll, chkSee, zP.down, zQ.down, zR.down, simprocAttr]
                    · have hd : decide ((vfold j x ((scan s).take (i + 1))).c > x.c) = true := by rw [hvs]; simp only [decide_eq_true_eq]; omega
                      rw [hd]
                      simp -implicitDefEqProofs (disch := first | exact nbf rfl | exact nbt rfl | (simp only [ne_eq, reduceCtorEq, not_false_eq_true]; done) | omega | (simp -implicitDefEqProofs only [zN.down] <;> omega) | fail) only [XOp.kind, reduceCtorEq, V.bool, V.i64, aUn, aBox, aLoad, aArrAddr, aFold, aEqV, chkAdd, effAdd, AOp.kind, chkAll, chkSee, zP.down, zQ.down, zR.down, simprocAttr]
                    · refine Kept.put ?_ (.inl (.inr (by omega))) (by simp; omega) _
                      refine Kept.put ?_ (.inl (.inr (by omega))) (by simp; omega) _
                      refine Kept.put ?_ (.inl (.inl rfl)) (by simp; omega) _
                      refine Kept.put ?_ (.inl (.inl rfl)) (by simp; omega) _
                      refine Kept.put ?_ (.inl (.inl rfl)) (by simp; omega) _
                      refine Kept.put ?_ (.inl (.inr (by omega))) (by simp; omega) _
                      refine Kept.put ?_ (.inl (.inr (by omega))) (by simp; omega) _
                      exact (Kept.refl _ _).bump
                  · have d1 : decide ((vcnt p : Int) > (xi.c : Int)) = false := by simp; omega
                    rw [if_neg hgt] at hvs
                    simp -implicitDefEqProofs (disch := first | exact nbf rfl | exact nbt rfl | (simp only [ne_eq, reduceCtorEq, not_false_eq_true]; done) | omega | (simp -implicitDefEqProofs only [zN.down] <;> omega) | fail) only [hk, lp3, gb, g4', g5', g8', g9', g10', u1, u2, u3, d1, e4, e5, e0, XOp.kind, reduceCtorEq, V.bool, V.i64, aUn, aBox, aLoad, aArrAddr, aFold, aEqV, chkAdd, effAdd, AOp.kind, chkAll, chkSee, zP.down, zQ.down, zR.down, simprocAttr]
                    refine ⟨⟨_, _, rfl⟩, fun _ => .inl ⟨?_, ?_, ?_, ?_, ?_, ?_, ?_, hoki hk, hJ2.kp.trans ?_⟩, fun h => h.elim⟩
                    · have := hJ2.bs
                      simp -implicitDefEqProofs (disch := first | exact nbf rfl | exact nbt rfl | (simp only [ne_eq, reduceCtorEq, not_false_eq_true]; done) | omega | (simp -implicitDefEqProofs only [zN.down] <;> omega) | fail) only [this, XOp.kind, reduceCtorEq, V.bool, V.i64, aUn, aBox, aLoad, aArrAddr, aFold, aEqV, chkAdd, effAdd, AOp.kind, chkAll, chkSee, zP.down, zQ.down, zR.down, simprocAttr]
                    · unfold BR
                      rw [hvs]
                      simp -implicitDefEqProofs (disch := first | exact nbf rfl | exact nbt rfl | (simp only [ne_eq, reduceCtorEq, not_false_eq_true]; done) | omega | (simp -implicitDefEqProofs only [zN.down] <;> omega) | fail) only [vcells, gb, XOp.kind, reduceCtorEq, V.bool, V.i64, aUn, aBox, aLoad, aArrAddr, aFold, aEqV, chkAdd, effAdd, AOp.kind, chkAll, chkSee, zP.down, zQ.down, zR.down, simprocAttr]
                    · simp -implicitDefEqProofs (disch := first | exact nbf rfl | exact nbt rfl | (simp only [ne_eq, reduceCtorEq, not_false_eq_true]; done) | omega | (simp -implicitDefEqProofs only [zN.down] <;> omega) | fail) only [g4', XOp.kind, reduceCtorEq, V.bool, V.i64, aUn, aBox, aLoad, aArrAddr, aFold, aEqV, chkAdd, effAdd, AOp.kind, chkAll, chkSee, zP.down, zQ.down, zR.down, simprocAttr]
                    · simp -implicitDefEqProofs (disch := first | exact nbf rfl | exact nbt rfl | (simp only [ne_eq, reduceCtorEq, not_false_eq_true]; done) | omega | (simp -implicitDefEqProofs only [zN.down] <;> omega) | fail) only [g5', XOp.kind, reduceCtorEq, V.bool, V.i64, aUn, aBox, aLoad, aArrAddr, aFold, aEqV, chkAdd, effAdd, AOp.kind, chkAll, chkSee, zP.down, zQ.down, zR.down, simprocAttr]
                    · simp -implicitDefEqProofs (disch := first | exact nbf rfl | exact nbt rfl | (simp only [ne_eq, reduceCtorEq, not_false_eq_true]; done) | omega | (simp -implicitDefEqProofs only [zN.down] <;> omega) | fail) only [XOp.kind, reduceCtorEq, V.bool, V.i64, aUn, aBox, aLoad, aArrAddr, aFold, aEqV, chkAdd, effAdd, AOp.kind, chkAll, chkSee, zP.down, zQ.down, zR.down, simprocAttr]
                    · simp -implicitDefEqProofs (disch := first | exact nbf rfl | exact nbt rfl | (simp only [ne_eq, reduceCtorEq, not_false_eq_true]; done) | omega | (simp -implicitDefEqProofs only [zN.down] <;> omega) | fail) only [XOp.kind, reduceCtorEq, V.bool, V.i64, aUn, aBox, aLoad, aArrAddr, aFold, aEqV, chkAdd, effAdd, AOp.kind, chkAll, chkSee, zP.down, zQ.down, zR.down, simprocAttr]
                    · have := g10'
                      rw [hvs]
                      simp -implicitDefEqProofs (disch := first | exact nbf rfl | exact nbt rfl | (simp only [ne_eq, reduceCtorEq, not_false_eq_true]; done) | omega | (simp -implicitDefEqProofs only [zN.down] <;> omega) | fail) only [this, XOp.kind, reduceCtorEq, V.bool, V.i64, aUn, aBox, aLoad, aArrAddr, aFold, aEqV, chkAdd, effAdd, AOp.kind, chkAll, chkSee, zP.down, zQ.down, zR.down, simprocAttr]
                    · refine Kept.put ?_ (.inl (.inr (by omega))) (by simp; omega) _
                      refine Kept.put ?_ (.inl (.inr (by omega))) (by simp; omega) _
                      refine Kept.put ?_ (.inl (.inr (by omega))) (by simp; omega) _
                      exact (Kept.refl _ _).bump
              · rintro ⟨_, τ⟩ h
                dsimp only at h ⊢
                rcases h with ⟨hJ, lp⟩ | ⟨i, hil, hnk, hJ, hdone⟩
                · have ly := St.get_lt lp
                  rw [after_n lp]
                  refine ⟨_, rfl, _, _, (scan s).length, .inl rfl, Nat.le_refl _, take_while hJ.ok (.inl rfl), hJ.kept (X := fun o => σ2.n + 5 < o) ((Kept.refl _ _).put (.inl (by omega)) ly _) (fun o h => h) sep, ?_, ?_, ?_, ?_, ?_, ?_, ?_⟩
                  all_goals (simp -implicitDefEqProofs (disch := first | exact nbf rfl | exact nbt rfl | (simp only [ne_eq, reduceCtorEq, not_false_eq_true]; done) | omega | (simp -implicitDefEqProofs only [zN.down] <;> omega) | fail) only [e0, e4, e5, XOp.kind, reduceCtorEq, V.bool, V.i64, aUn, aBox, aLoad, aArrAddr, aFold, aEqV, chkAdd, effAdd, AOp.kind, chkAll, chkSee, zP.down, zQ.down, zR.down, simprocAttr]; done)
                · have ly := St.get_lt hdone
                  rw [after_e hdone]
                  refine ⟨_, rfl, _, _, i, .inr rfl, by omega, take_while hJ.ok (.inr ⟨hil, hnk⟩), hJ.kept (X := fun o => σ2.n + 5 < o) ((Kept.refl _ _).put (.inl (by omega)) ly _) (fun o h => h) sep, ?_, ?_, ?_, ?_, ?_, ?_, ?_⟩
                  all_goals (simp -implicitDefEqProofs (disch := first | exact nbf rfl | exact nbt rfl | (simp only [ne_eq, reduceCtorEq, not_false_eq_true]; done) | omega | (simp -implicitDefEqProofs only [zN.down] <;> omega) | fail) only [e0, e4, e5, XOp.kind, reduceCtorEq, V.bool, V.i64, aUn, aBox, aLoad, aArrAddr, aFold, aEqV, chkAdd, effAdd, AOp.kind, chkAll, chkSee, zP.down, zQ.down, zR.down, simprocAttr]; done)
            · rintro r8 ⟨ρ', σ3, i, hr, hi, hvl, hJ, e0, e4, e5, e6, e8, e9, e10⟩
              have hb8 : stBlock 2 (some r8) = some ((.normal : Ex), ρ', σ3) := by rcases hr with rfl | rfl <;> rfl
              rw [hb8]
              have hli : (vl s).length = i := by rw [hvl, List.length_take]; omega
              have gb := hJ.br
              have g4' := hJ.q4
              have g5' := hJ.q5
              have g8' := hJ.q8
              have g9' := hJ.q9
              have g10' := hJ.q10
              have kk3 : Kept (fun o => o = σ.n ∨ σ2.n + 2 ≤ o) σ2 σ3 := kS.any.trans hJ.kp
              have hdr3 := hdr.kept kk3 (by omega)
              have kp3 : Kept (· = d) σ σ3 := ⟨Nat.le_trans kp.n kk3.n, fun o z ho hz => by
                have := St.get_lt hz
                have h2 := kp.get o z ho hz
                exact kk3.get o z (by have := kp.n; omega) h2⟩
              have hfl := flen_scan _ s (Nat.le_refl _)
              have hfl2 := flen_take_le (scan s) i
              rw [← hvl] at gb g8' g10' hfl2
              rw [← hli] at g9'
              have l1 := St.get_lt gb
              have c1 := hcut1 σ3 hdr3
              generalize vl s = lv at *
              obtain ⟨E, hE⟩ : ∃ E : DM × VB × Int, E = (if flen lv < s.length then (if (M'.change j ⟨2, [], flen lv⟩).2 ≠ 0 then ((M'.change j ⟨2, [], flen lv⟩).1, x, (M'.change j ⟨2, [], flen lv⟩).2) else (((M'.change j ⟨2, [], flen lv⟩).1.sync j).1, vin x (vfold j x lv) lv.length, ((M'.change j ⟨2, [], flen lv⟩).1.sync j).2)) else (M', vin x (vfold j x lv) lv.length, 0)) := ⟨_, rfl⟩
              rw [← hE]
              generalize M'.change j ⟨2, [], flen lv⟩ = ch at *
              simp -implicitDefEqProofs (disch := first | exact nbf rfl | exact nbt rfl | (simp only [ne_eq, reduceCtorEq, not_false_eq_true]; done) | omega | (simp -implicitDefEqProofs only [zN.down] <;> omega) | fail) only [e0, e5, e6, e8, g8', XOp.kind, reduceCtorEq, V.bool, V.i64, aUn, aBox, aLoad, aArrAddr, aFold, aEqV, chkAdd, effAdd, AOp.kind, chkAll, chkSee, zP.down, zQ.down, zR.down, simprocAttr]
              refine w_seq ?_
              refine W.mono (Q := fun r => (∃ (ρ : Env) (σ4 : St), r = ((.normal : Ex), ρ, σ4) ∧ E.2.2 = 0 ∧ E.2.1 = vin x (vfold j x lv) lv.length ∧ DR σ4 d E.1 ∧ Kept (· = d) σ3 σ4 ∧ ρ 0 = .ptr d 0 ∧ ρ 4 = .ptr (σ.n + 1) 0 ∧ ρ 5 = .ptr o5 0 ∧ ρ 9 = .ptr (σ2.n + 3) 0 ∧ ρ 10 = .ptr (σ2.n + 4) 0) ∨ (∃ (ρ : Env) (σ4 : St), r = ((.ret : Ex), ρ, σ4) ∧ E.2.2 ≠ 0 ∧ ρ 2 = .sc .nilP ∧ ρ 3 = .sc (.int .i64 E.2.2) ∧ DR σ4 d E.1 ∧ Kept (· = d) σ3 σ4)) ?_ ?_
              · by_cases hlt : flen lv < s.length
                · have d1 : decide ((flen lv : Int) < (s.length : Int)) = true := by simpa using hlt
                  rw [if_pos hlt] at hE
                  simp -implicitDefEqProofs (disch := first | exact nbf rfl | exact nbt rfl | (simp only [ne_eq, reduceCtorEq, not_false_eq_true]; done) | omega | (simp -implicitDefEqProofs only [zN.down] <;> omega) | fail) only [d1, e0, e5, g5', e8, g8', XOp.kind, reduceCtorEq, V.bool, V.i64, aUn, aBox, aLoad, aArrAddr, aFold, aEqV, chkAdd, effAdd, AOp.kind, chkAll, chkSee, zP.down, zQ.down, zR.down, simprocAttr]
                  repeat (first | refine w_fin ?_ | refine w_seq ?_ | refine w_block ?_ | refine w_reg ?_ | refine w_op ?_ | refine w_dop ?_)
                  refine c1.mono ?_
                  rintro ⟨_, σ4⟩ ⟨rfl, hdr4, k4⟩
                  dsimp only at hdr4 k4
                  by_cases hch : ch.2 = 0
                  · have d2 : (ch.2 != 0) = false := by simp [hch]
                    rw [if_neg (by simp [hch])] at hE
                    have g54 := k4.get _ _ (by omega) g5'
                    simp -implicitDefEqProofs (disch := first | exact nbf rfl | exact nbt rfl | (simp only [ne_eq, reduceCtorEq, not_false_eq_true]; done) | omega | (simp -implicitDefEqProofs only [zN.down] <;> omega) | fail) only [d2, e0, e5, g54, XOp.kind, reduceCtorEq, V.bool, V.i64, aUn, aBox, aLoad, aArrAddr, aFold, aEqV, chkAdd, effAdd, AOp.kind, chkAll, chkSee, zP.down, zQ.down, zR.down, simprocAttr]
                    repeat (first | refine w_fin ?_ | refine w_seq ?_ | refine w_block ?_ | refine w_reg ?_ | refine w_op ?_ | refine w_dop ?_)
                    refine (hsy1 σ4 ch.1 hdr4 hMc).mono ?_
                    rintro ⟨_, σ5⟩ ⟨rfl, hdr5, k5⟩
                    dsimp only at hdr5 k5
                    generalize ch.1.sync j = sy at *
                    by_cases hsy0 : sy.2 = 0
                    · have d3 : (sy.2 != 0) = false := by simp [hsy0]
                      simp -implicitDefEqProofs (disch := first | exact nbf rfl | exact nbt rfl | (simp only [ne_eq, reduceCtorEq, not_false_eq_true]; done) | omega | (simp -implicitDefEqProofs only [zN.down] <;> omega) | fail) only [d3, XOp.kind, reduceCtorEq, V.bool, V.i64, aUn, aBox, aLoad, aArrAddr, aFold, aEqV, chkAdd, effAdd, AOp.kind, chkAll, chkSee, zP.down, zQ.down, zR.down, simprocAttr]
                      left
                      refine ⟨_, _, rfl, by rw [hE]; exact hsy0, by rw [hE], by rw [hE]; exact hdr5, k4.trans k5, ?_, ?_, ?_, ?_, ?_⟩
                      all_goals (simp -implicitDefEqProofs (disch := first | exact nbf rfl | exact nbt rfl | (simp only [ne_eq, reduceCtorEq, not_false_eq_true]; done) | omega | (simp -implicitDefEqProofs only [zN.down] <;> omega) | fail) only [e0, e4, e5, e9, e10, XOp.kind, reduceCtorEq, V.bool, V.i64, aUn, aBox, aLoad, aArrAddr, aFold, aEqV, chkAdd, effAdd, AOp.kind, chkAll, chkSee, zP.down, zQ.down, zR.down, simprocAttr]; done)
                    · have d3 : (sy.2 != 0) = true := by simp [hsy0]
                      simp -implicitDefEqProofs (disch := first | exact nbf rfl | exact nbt rfl | (simp only [ne_eq, reduceCtorEq, not_false_eq_true]; done) | omega | (simp -implicitDefEqProofs only [zN.down] <;> omega) | fail) only [d3, XOp.kind, reduceCtorEq, V.bool, V.i64, aUn, aBox, aLoad, aArrAddr, aFold, aEqV, chkAdd, effAdd, AOp.kind, chkAll, chkSee, zP.down, zQ.down, zR.down, simprocAttr]
                      right
                      refine ⟨_, _, rfl, by rw [hE]; exact hsy0, ?_, ?_, by rw [hE]; exact hdr5, k4.trans k5⟩
                      · simp -implicitDefEqProofs (disch := first | exact nbf rfl | exact nbt rfl | (simp only [ne_eq, reduceCtorEq, not_false_eq_true]; done) | omega | (simp -implicitDefEqProofs only [zN.down] <;> omega) | fail) only [XOp.kind, reduceCtorEq, V.bool, V.i64, aUn, aBox, aLoad, aArrAddr, aFold, aEqV, chkAdd, effAdd, AOp.kind, chkAll, chkSee, zP.down, zQ.down, zR.down, simprocAttr]
                      · rw [hE]; simp -implicitDefEqProofs (disch := first | exact nbf rfl | exact nbt rfl | (simp only [ne_eq, reduceCtorEq, not_false_eq_true]; done) | omega | (simp -implicitDefEqProofs only [zN.down] <;> omega) | fail) only [XOp.kind, reduceCtorEq, V.bool, V.i64, aUn, aBox, aLoad, aArrAddr, aFold, aEqV, chkAdd, effAdd, AOp.kind, chkAll, chkSee, zP.down, zQ.down, zR.down, simprocAttr]
                  · have d2 : (ch.2 != 0) = true := by simp [hch]
                    rw [if_pos hch] at hE
                    simp -implicitDefEqProofs (disch := first | exact nbf rfl | exact nbt rfl | (simp only [ne_eq, reduceCtorEq, not_false_eq_true]; done) | omega | (simp -implicitDefEqProofs only [zN.down] <;> omega) | fail) only [d2, XOp.kind, reduceCtorEq, V.bool, V.i64, aUn, aBox, aLoad, aArrAddr, aFold, aEqV, chkAdd, effAdd, AOp.kind, chkAll, chkSee, zP.down, zQ.down, zR.down, simprocAttr]
                    right
                    refine ⟨_, _, rfl, by rw [hE]; exact hch, ?_, ?_, by rw [hE]; exact hdr4, k4⟩
                    · simp -implicitDefEqProofs (disch := first | exact nbf rfl | exact nbt rfl | (simp only [ne_eq, reduceCtorEq, not_false_eq_true]; done) | omega | (simp -implicitDefEqProofs only [zN.down] <;> omega) | fail) only [XOp.kind, reduceCtorEq, V.bool, V.i64, aUn, aBox, aLoad, aArrAddr, aFold, aEqV, chkAdd, effAdd, AOp.kind, chkAll, chkSee, zP.down, zQ.down, zR.down, simprocAttr]
                    · rw [hE]; simp -implicitDefEqProofs (disch := first | exact nbf rfl | exact nbt rfl | (simp only [ne_eq, reduceCtorEq, not_false_eq_true]; done) | omega | (simp -implicitDefEqProofs only [zN.down] <;> omega) | fail) only [XOp.kind, reduceCtorEq, V.bool, V.i64, aUn, aBox, aLoad, aArrAddr, aFold, aEqV, chkAdd, effAdd, AOp.kind, chkAll, chkSee, zP.down, zQ.down, zR.down, simprocAttr]
                · have d1 : decide ((flen lv : Int) < (s.length : Int)) = false := by simpa using hlt
                  rw [if_neg hlt] at hE
                  simp -implicitDefEqProofs (disch := first | exact nbf rfl | exact nbt rfl | (simp only [ne_eq, reduceCtorEq, not_false_eq_true]; done) | omega | (simp -implicitDefEqProofs only [zN.down] <;> omega) | fail) only [d1, XOp.kind, reduceCtorEq, V.bool, V.i64, aUn, aBox, aLoad, aArrAddr, aFold, aEqV, chkAdd, effAdd, AOp.kind, chkAll, chkSee, zP.down, zQ.down, zR.down, simprocAttr]
                  left
                  refine ⟨_, _, rfl, by rw [hE], by rw [hE], by rw [hE]; exact hdr3, Kept.refl _ _, ?_, ?_, ?_, ?_, ?_⟩
                  all_goals (simp -implicitDefEqProofs (disch := first | exact nbf rfl | exact nbt rfl | (simp only [ne_eq, reduceCtorEq, not_false_eq_true]; done) | omega | (simp -implicitDefEqProofs only [zN.down] <;> omega) | fail) only [e0, e4, e5, e9, e10, XOp.kind, reduceCtorEq, V.bool, V.i64, aUn, aBox, aLoad, aArrAddr, aFold, aEqV, chkAdd, effAdd, AOp.kind, chkAll, chkSee, zP.down, zQ.down, zR.down, simprocAttr]; done)
              · rintro _ (⟨ρ4, σ4, rfl, hz, hx2, hdr4, k4, e0, e4, e5, e9, e10⟩ | ⟨ρ4, σ4, rfl, hz, e2, e3, hdr4, k4⟩)
                · have b4 := k4.get _ _ (by omega) gb
                  have q44 := k4.get _ _ (by omega) g4'
                  have q54 := k4.get _ _ (by omega) g5'
                  have q94 := k4.get _ _ (by omega) g9'
                  have q104 := k4.get _ _ (by omega) g10'
                  have lb4 := St.get_lt b4
                  unfold vcells at b4
                  by_cases hn : (vfold j x lv).c > x.c
                  · have d5 : decide ((vfold j x lv).c > x.c) = true := by simpa using hn
                    rw [d5] at q104
                    simp -implicitDefEqProofs (disch := first | exact nbf rfl | exact nbt rfl | (simp only [ne_eq, reduceCtorEq, not_false_eq_true]; done) | omega | (simp -implicitDefEqProofs only [zN.down] <;> omega) | fail) only [e4, e5, e9, e10, q44, q94, q104, b4, XOp.kind, reduceCtorEq, V.bool, V.i64, aUn, aBox, aLoad, aArrAddr, aFold, aEqV, chkAdd, effAdd, AOp.kind, chkAll, chkSee, zP.down, zQ.down, zR.down, simprocAttr]
                    left
                    have kz : ∀ z, Kept noX σ4 (σ4.put σ.n z) → True := fun _ _ => trivial
                    refine ⟨_, _, rfl, hz, hdr4.kept (X := (· = σ.n)) (Kept.put (X := (· = σ.n)) (Kept.refl _ _) (.inl rfl) lb4 _) (by omega), ?_, get_put_other lb4 (by omega) q44, get_put_other lb4 (by omega) q54, (kp3.trans k4).put (.inr (Nat.le_refl _)) lb4 _, ?_, ?_, ?_⟩
                    · rw [hx2]
                      unfold BR vin
                      rw [if_pos hn, get_put_eq rfl lb4]
                      rfl
                    all_goals (simp -implicitDefEqProofs (disch := first | exact nbf rfl | exact nbt rfl | (simp only [ne_eq, reduceCtorEq, not_false_eq_true]; done) | omega | (simp -implicitDefEqProofs only [zN.down] <;> omega) | fail) only [e0, e4, e5, XOp.kind, reduceCtorEq, V.bool, V.i64, aUn, aBox, aLoad, aArrAddr, aFold, aEqV, chkAdd, effAdd, AOp.kind, chkAll, chkSee, zP.down, zQ.down, zR.down, simprocAttr]; done)
                  · have d5 : decide ((vfold j x lv).c > x.c) = false := by simpa using hn
                    rw [d5] at q104
                    simp -implicitDefEqProofs (disch := first | exact nbf rfl | exact nbt rfl | (simp only [ne_eq, reduceCtorEq, not_false_eq_true]; done) | omega | (simp -implicitDefEqProofs only [zN.down] <;> omega) | fail) only [e4, e5, e9, e10, q44, q94, q104, b4, XOp.kind, reduceCtorEq, V.bool, V.i64, aUn, aBox, aLoad, aArrAddr, aFold, aEqV, chkAdd, effAdd, AOp.kind, chkAll, chkSee, zP.down, zQ.down, zR.down, simprocAttr]
                    left
                    refine ⟨_, _, rfl, hz, hdr4, ?_, q44, q54, kp3.trans k4, ?_, ?_, ?_⟩
                    · rw [hx2]
                      unfold BR vin
                      rw [if_neg hn]
                      exact b4
                    all_goals (simp -implicitDefEqProofs (disch := first | exact nbf rfl | exact nbt rfl | (simp only [ne_eq, reduceCtorEq, not_false_eq_true]; done) | omega | (simp -implicitDefEqProofs only [zN.down] <;> omega) | fail) only [e0, e4, e5, XOp.kind, reduceCtorEq, V.bool, V.i64, aUn, aBox, aLoad, aArrAddr, aFold, aEqV, chkAdd, effAdd, AOp.kind, chkAll, chkSee, zP.down, zQ.down, zR.down, simprocAttr]; done)
                · simp -implicitDefEqProofs (disch := first | exact nbf rfl | exact nbt rfl | (simp only [ne_eq, reduceCtorEq, not_false_eq_true]; done) | omega | (simp -implicitDefEqProofs only [zN.down] <;> omega) | fail) only [XOp.kind, reduceCtorEq, V.bool, V.i64, aUn, aBox, aLoad, aArrAddr, aFold, aEqV, chkAdd, effAdd, AOp.kind, chkAll, chkSee, zP.down, zQ.down, zR.down, simprocAttr]
                  right
                  exact ⟨_, _, rfl, hz, e2, e3, hdr4, kp3.trans k4⟩
          · have d0 : (rr.2 != 0) = true := by simp [r0]
            rw [if_pos r0]
            simp -implicitDefEqProofs (disch := first | exact nbf rfl | exact nbt rfl | (simp only [ne_eq, reduceCtorEq, not_false_eq_true]; done) | omega | (simp -implicitDefEqProofs only [zN.down] <;> omega) | fail) only [d4, d0, XOp.kind, reduceCtorEq, V.bool, V.i64, aUn, aBox, aLoad, aArrAddr, aFold, aEqV, chkAdd, effAdd, AOp.kind, chkAll, chkSee, zP.down, zQ.down, zR.down, simprocAttr]
            right
            refine ⟨_, _, rfl, r0, ?_, ?_, hdr.kept ((Kept.refl noX σ2).bump.bump) (fun h => h), kp.bump.bump⟩
            all_goals (simp -implicitDefEqProofs (disch := first | exact nbf rfl | exact nbt rfl | (simp only [ne_eq, reduceCtorEq, not_false_eq_true]; done) | omega | (simp -implicitDefEqProofs only [zN.down] <;> omega) | fail) only [XOp.kind, reduceCtorEq, V.bool, V.i64, aUn, aBox, aLoad, aArrAddr, aFold, aEqV, chkAdd, effAdd, AOp.kind, chkAll, chkSee, zP.down, zQ.down, zR.down, simprocAttr]; done)
        · rintro _ (⟨ρ', σ', rfl, hz, h1, h2, h3, h4, h5, e0, e4, e5⟩ | ⟨ρ', σ', rfl, hz, e2, e3, h1, h5⟩)
          · rw [if_neg (by simp [hz])] at hv
            have lt5 := St.get_lt h4
            have w1 : IntKind.i64.wrap ((j : Int) + 1) = ((j + 1 : Nat) : Int) := wrap64 (by omega) (by omega)
            simp -implicitDefEqProofs (disch := first | exact nbf rfl | exact nbt rfl | (simp only [ne_eq, reduceCtorEq, not_false_eq_true]; done) | omega | (simp -implicitDefEqProofs only [zN.down] <;> omega) | fail) only [e5, h4, w1, XOp.kind, reduceCtorEq, V.bool, V.i64, aUn, aBox, aLoad, aArrAddr, aFold, aEqV, chkAdd, effAdd, AOp.kind, chkAll, chkSee, zP.down, zQ.down, zR.down, simprocAttr]
            have kz : Kept noX σ' (((σ'.push (.cells [.sc (.int .i64 0)])).put σ'.n (some (.cells [.sc (.int .i64 j)]))).put σ'.n (some (.cells [.sc (.int .i64 ((j + 1 : Nat) : Int))]))) := (((Kept.refl _ _).push _).put (.inr (Nat.le_refl _)) (by simp) _).put (.inr (Nat.le_refl _)) (by simp) _
            have gz : (((σ'.push (.cells [.sc (.int .i64 0)])).put σ'.n (some (.cells [.sc (.int .i64 j)]))).put σ'.n (some (.cells [.sc (.int .i64 ((j + 1 : Nat) : Int))]))).get σ'.n = some (.cells [.sc (.int .i64 ((j + 1 : Nat) : Int))]) := get_put_self (get_put_self (get_push_self (x := .cells [.sc (.int .i64 0)])))
            exact ⟨2 - (j + 1), by omega, j + 1, σ'.n, _, _, rfl, by omega, hv.symm, hMf.more (by omega), h1.kept kz (fun h => h), kz.get _ _ (fun h => h) h2, h3, by omega, gz, h5.trans kz.any, e0, e4, rfl⟩
          · rw [if_pos hz] at hv
            simp -implicitDefEqProofs (disch := first | exact nbf rfl | exact nbt rfl | (simp only [ne_eq, reduceCtorEq, not_false_eq_true]; done) | omega | (simp -implicitDefEqProofs only [zN.down] <;> omega) | fail) only [XOp.kind, reduceCtorEq, V.bool, V.i64, aUn, aBox, aLoad, aArrAddr, aFold, aEqV, chkAdd, effAdd, AOp.kind, chkAll, chkSee, zP.down, zQ.down, zR.down, simprocAttr]
            right
            refine ⟨_, _, rfl, by rw [hv]; exact hz, e2, by rw [hv]; exact e3, by rw [hv]; exact h1, h5⟩
      · have c1 : decide ((j : Int) ≤ 1) = false := by simp; omega
        have : j = 2 := by omega
        subst this
        simp -implicitDefEqProofs (disch := first | exact nbf rfl | exact nbt rfl | (simp only [ne_eq, reduceCtorEq, not_false_eq_true]; done) | omega | (simp -implicitDefEqProofs only [zN.down] <;> omega) | fail) only [c1, e5, q5, XOp.kind, reduceCtorEq, V.bool, V.i64, aUn, aBox, aLoad, aArrAddr, aFold, aEqV, chkAdd, effAdd, AOp.kind, chkAll, chkSee, zP.down, zQ.down, zR.down, simprocAttr]
        left
        have hA2 : A = (M', x, 0) := hrest.symm
        subst hA2
        exact ⟨_, _, rfl, rfl, by simp -implicitDefEqProofs (disch := first | exact nbf rfl | exact nbt rfl | (simp only [ne_eq, reduceCtorEq, not_false_eq_true]; done) | omega | (simp -implicitDefEqProofs only [zN.down] <;> omega) | fail) only [e4, XOp.kind, reduceCtorEq, V.bool, V.i64, aUn, aBox, aLoad, aArrAddr, aFold, aEqV, chkAdd, effAdd, AOp.kind, chkAll, chkSee, zP.down, zQ.down, zR.down, simprocAttr], q4, hbr, hdr, kp⟩
  · rintro _ (⟨ρ, σ', rfl, hz, e4, q4, hb, h1, k1⟩ | ⟨ρ, σ', rfl, hz, e2, e3, h1, k1⟩)
    · simp -implicitDefEqProofs (disch := first | exact nbf rfl | exact nbt rfl | (simp only [ne_eq, reduceCtorEq, not_false_eq_true]; done) | omega | (simp -implicitDefEqProofs only [zN.down] <;> omega) | fail) only [e4, q4, XOp.kind, reduceCtorEq, V.bool, V.i64, aUn, aBox, aLoad, aArrAddr, aFold, aEqV, chkAdd, effAdd, AOp.kind, chkAll, chkSee, zP.down, zQ.down, zR.down, simprocAttr]
      exact ⟨σ.n, by rw [if_pos hz, hz], fun _ => ⟨hb, Nat.le_refl _⟩, h1, k1⟩
    · simp -implicitDefEqProofs (disch := first | exact nbf rfl | exact nbt rfl | (simp only [ne_eq, reduceCtorEq, not_false_eq_true]; done) | omega | (simp -implicitDefEqProofs only [zN.down] <;> omega) | fail) only [e2, e3, XOp.kind, reduceCtorEq, V.bool, V.i64, aUn, aBox, aLoad, aArrAddr, aFold, aEqV, chkAdd, effAdd, AOp.kind, chkAll, chkSee, zP.down, zQ.down, zR.down, simprocAttr]
      exact ⟨0, by rw [if_neg hz], fun h => absurd h hz, h1, k1⟩
end Go.Proofs.Ytllkidpebjgkeaa.vt
namespace Go.Proofs.Ytllkidpebjgkeaa.vt
open Go.Ab fr dk
set_option maxRecDepth 100000
set_option maxHeartbeats 8000000
set_option linter.unusedSimpArgs false
set_option linter.unusedVariables false

theorem now_ok (k : Nat) (ys : YlF) (σ : St) (b d : Nat) (x : VB) (h : BR σ b d x) : callY Tab.tb (k + 1) ys 14 [.ptr b 0] σ = some (.agg [.sc (.int .i64 x.t), .sc (.int .i64 x.w)], σ.bump) := by
  rw [s_call (af := Tab.b14) rfl (Nat.le_of_ble_eq_true rfl)]
  generalize callY Tab.tb k = cy
  unfold BR vcells at h
  simp -implicitDefEqProofs (disch := first | exact nbf rfl | exact nbt rfl | (simp only [ne_eq, reduceCtorEq, not_false_eq_true]; done) | omega | (simp -implicitDefEqProofs only [zN.down] <;> omega) | fail) only [Tab.b14, h, dk.pnil, XOp.kind, reduceCtorEq, V.bool, V.i64, aUn, aBox, aLoad, aArrAddr, aFold, chkAdd, effAdd, AOp.kind, chkAll, chkSee, zP.down, zQ.down, zR.down, simprocAttr]

theorem w1_ok (k : Nat) (ys : YlF) (σ : St) (o2 o5 o3 b d f : Nat) (t u : Nat) (x : VB) (M : DM) (g2 : σ.get o2 = some (.cells [.ptr b 0])) (g5 : σ.get o5 = some (.cells [.sc (.int .i64 f)])) (g3 : σ.get o3 = some (.cells [.sc (.int .i64 t), .sc (.int .i64 ((u : Int) - 1))])) (hb : BR σ b d x) (hd : DR σ d M) {B : Nat} (hm : M.Ok B) (hB : B ≤ 1000000) (hc : x.c < 4611686018427387904) (ht : t ≤ 1099511627776) (hu : u ≤ 3) (hk : 5000 ≤ k) :
    W (callY Tab.tb (k + 6) ys 35 [.ptr o2 0, .ptr o5 0, .ptr o3 0] σ) fun r => r.1 = .sc (.int .i64 (M.change f ⟨1, fput (vpay (x.c + 1) t u), 0⟩).2) ∧ DR r.2 d (M.change f ⟨1, fput (vpay (x.c + 1) t u), 0⟩).1 ∧ Kept (· = d) σ r.2 := by
  rw [s_call (af := Tab.b35) rfl (Nat.le_of_ble_eq_true rfl)]
  have henc := fun σ => encode_ok k ys σ (x.c + 1) t u (by omega) ht hu hk
  have hap := fun σ s h => append_ok (B := B) (k + 2) ys σ d M f s h hm hB
  generalize callY Tab.tb (k + 5) = cy at henc hap ⊢
  unfold BR vcells at hb
  have w1 : IntKind.u64.wrap ((x.c : Int) + 1) = ((x.c + 1 : Nat) : Int) := by
    rw [show (x.c : Int) + 1 = ((x.c + 1 : Nat) : Int) by omega]; exact wrap_u64 (by omega)
  simp -implicitDefEqProofs (disch := first | exact nbf rfl | exact nbt rfl | (simp only [ne_eq, reduceCtorEq, not_false_eq_true]; done) | omega | (simp -implicitDefEqProofs only [zN.down] <;> omega) | fail) only [Tab.b35, g2, g3, g5, hb, w1, XOp.kind, reduceCtorEq, V.bool, V.i64, aUn, aBox, aLoad, aArrAddr, aFold, aEqV, chkAdd, effAdd, AOp.kind, chkAll, chkSee, zP.down, zQ.down, zR.down, simprocAttr]
  repeat (first | refine w_fin ?_ | refine w_seq ?_ | refine w_block ?_ | refine w_reg ?_ | refine w_op ?_ | refine w_dop ?_)
  refine (henc σ).mono ?_
  rintro ⟨_, σ1⟩ ⟨rfl, k1⟩
  dsimp only at k1
  have g21 := k1.get _ _ (fun h => h) g2
  have g51 := k1.get _ _ (fun h => h) g5
  have hb1 := k1.get _ _ (fun h => h) hb
  have hd1 := hd.kept k1 (fun h => h)
  simp -implicitDefEqProofs (disch := first | exact nbf rfl | exact nbt rfl | (simp only [ne_eq, reduceCtorEq, not_false_eq_true]; done) | omega | (simp -implicitDefEqProofs only [zN.down] <;> omega) | fail) only [g2, g5, hb, g21, g51, hb1, XOp.kind, reduceCtorEq, V.bool, V.i64, aUn, aBox, aLoad, aArrAddr, aFold, aEqV, chkAdd, effAdd, AOp.kind, chkAll, chkSee, zP.down, zQ.down, zR.down, simprocAttr]
  repeat (first | refine w_fin ?_ | refine w_seq ?_ | refine w_block ?_ | refine w_reg ?_ | refine w_op ?_ | refine w_dop ?_)
  refine (hap σ1 _ hd1).mono ?_
  rintro ⟨_, σ2⟩ ⟨rfl, hd2, k2⟩
  dsimp only at hd2 k2
  simp -implicitDefEqProofs (disch := first | exact nbf rfl | exact nbt rfl | (simp only [ne_eq, reduceCtorEq, not_false_eq_true]; done) | omega | (simp -implicitDefEqProofs only [zN.down] <;> omega) | fail) only [g2, g5, hb, g21, g51, hb1, XOp.kind, reduceCtorEq, V.bool, V.i64, aUn, aBox, aLoad, aArrAddr, aFold, aEqV, chkAdd, effAdd, AOp.kind, chkAll, chkSee, zP.down, zQ.down, zR.down, simprocAttr]
  exact ⟨hd2, k1.any.trans k2⟩
theorem w2_ok (k : Nat) (ys : YlF) (σ : St) (o2 o5 b d f : Nat) (x : VB) (M : DM) (g2 : σ.get o2 = some (.cells [.ptr b 0])) (g5 : σ.get o5 = some (.cells [.sc (.int .i64 f)])) (hb : BR σ b d x) (hd : DR σ d M) {B : Nat} (hm : M.Ok B) (hB : B ≤ 1000000) :
    W (callY Tab.tb (k + 6) ys 37 [.ptr o2 0, .ptr o5 0] σ) fun r => r.1 = .sc (.int .i64 (M.sync f).2) ∧ DR r.2 d (M.sync f).1 ∧ Kept (· = d) σ r.2 := by
  rw [s_call (af := Tab.b37) rfl (Nat.le_of_ble_eq_true rfl)]
  have hsy := fun σ h => sync_ok (B := B) (k + 3) ys σ d M f h hm hB
  generalize callY Tab.tb (k + 5) = cy at hsy ⊢
  unfold BR vcells at hb
  simp -implicitDefEqProofs (disch := first | exact nbf rfl | exact nbt rfl | (simp only [ne_eq, reduceCtorEq, not_false_eq_true]; done) | omega | (simp -implicitDefEqProofs only [zN.down] <;> omega) | fail) only [Tab.b37, g2, g5, hb, XOp.kind, reduceCtorEq, V.bool, V.i64, aUn, aBox, aLoad, aArrAddr, aFold, aEqV, chkAdd, effAdd, AOp.kind, chkAll, chkSee, zP.down, zQ.down, zR.down, simprocAttr]
  repeat (first | refine w_fin ?_ | refine w_seq ?_ | refine w_block ?_ | refine w_reg ?_ | refine w_op ?_ | refine w_dop ?_)
  refine (hsy σ hd).mono ?_
  rintro ⟨_, σ2⟩ ⟨rfl, hd2, k2⟩
  simp -implicitDefEqProofs (disch := first | exact nbf rfl | exact nbt rfl | (simp only [ne_eq, reduceCtorEq, not_false_eq_true]; done) | omega | (simp -implicitDefEqProofs only [zN.down] <;> omega) | fail) only [XOp.kind, reduceCtorEq, V.bool, V.i64, aUn, aBox, aLoad, aArrAddr, aFold, aEqV, chkAdd, effAdd, AOp.kind, chkAll, chkSee, zP.down, zQ.down, zR.down, simprocAttr]
  exact ⟨hd2, k2⟩

/-- A ballot is written into a file in which so many stand. -/
def vput (M : DM) (x : VB) (t w : Int) (f n : Nat) : DM × VB × Int :=
  if (M.change f ⟨1, fput (vpay (x.c + 1) t.toNat (w + 1).toNat), 0⟩).2 ≠ 0 then ((M.change f ⟨1, fput (vpay (x.c + 1) t.toNat (w + 1).toNat), 0⟩).1, { x with br := (M.change f ⟨1, fput (vpay (x.c + 1) t.toNat (w + 1).toNat), 0⟩).2 }, (M.change f ⟨1, fput (vpay (x.c + 1) t.toNat (w + 1).toNat), 0⟩).2)
  else if ((M.change f ⟨1, fput (vpay (x.c + 1) t.toNat (w + 1).toNat), 0⟩).1.sync f).2 ≠ 0 then (((M.change f ⟨1, fput (vpay (x.c + 1) t.toNat (w + 1).toNat), 0⟩).1.sync f).1, { x with br := ((M.change f ⟨1, fput (vpay (x.c + 1) t.toNat (w + 1).toNat), 0⟩).1.sync f).2 }, ((M.change f ⟨1, fput (vpay (x.c + 1) t.toNat (w + 1).toNat), 0⟩).1.sync f).2)
  else (((M.change f ⟨1, fput (vpay (x.c + 1) t.toNat (w + 1).toNat), 0⟩).1.sync f).1, ⟨t, w, x.c + 1, f, n + 1, 0⟩, 0)
def vwrite (M : DM) (x : VB) (t w : Int) : DM × VB × Int :=
  if x.br ≠ 0 then (M, x, x.br)
  else if ¬ vmay t w then (M, x, 2)
  else if t < x.t ∨ (t = x.t ∧ w ≠ x.w ∧ x.w ≥ 0) then (M, x, 5)
  else if t = x.t ∧ w = x.w then (M, x, 0)
  else if x.c = 4611686018427387904 then (M, x, 5)
  else if x.n ≥ 8 then
    (if (M.change (1 - x.f : Nat) ⟨3, [], 0⟩).2 ≠ 0 ∧ (M.change (1 - x.f : Nat) ⟨3, [], 0⟩).2 ≠ 4 then ((M.change (1 - x.f : Nat) ⟨3, [], 0⟩).1, { x with br := (M.change (1 - x.f : Nat) ⟨3, [], 0⟩).2 }, (M.change (1 - x.f : Nat) ⟨3, [], 0⟩).2)
     else vput (M.change (1 - x.f : Nat) ⟨3, [], 0⟩).1 x t w (1 - x.f) 0)
  else vput M x t w x.f x.n
abbrev q2 : EqT := .struct [(0, none, .int .i64), (1, none, .int .i64)]
theorem eq2 (σ : St) (a b c d : Int) : aEqV σ q2 (.agg [.sc (.int .i64 a), .sc (.int .i64 b)]) (.agg [.sc (.int .i64 c), .sc (.int .i64 d)]) = some (a == c && b == d) := by
  simp [aEqV, aEqFs, aPart, aEqInt]

theorem write_ok (k : Nat) (ys : YlF) (σ : St) (b d : Nat) (x : VB) (M : DM) (t w : Int) (hb : BR σ b d x) (hd : DR σ d M) (hbd : b ≠ d) {B : Nat} (hm : M.Ok B) (hB : B ≤ 999990) (hxc : x.c ≤ 4611686018427387904) (hxf : x.f ≤ 1) (hxn : x.n ≤ 1000000) (hk : 5000 ≤ k) :
    W (callY Tab.tb (k + 7) ys 15 [.ptr b 0, .agg [.sc (.int .i64 t), .sc (.int .i64 w)]] σ) fun r => r.1 = .sc (.int .i64 (vwrite M x t w).2.2) ∧ BR r.2 b d (vwrite M x t w).2.1 ∧ DR r.2 d (vwrite M x t w).1 ∧ Kept (fun o => o = d ∨ o = b) σ r.2 := by
  rw [s_call (af := Tab.b15) rfl (Nat.le_of_ble_eq_true rfl)]
  have hch := fun σ t w => check_ok (k + 5) ys σ t w
  have hrm := fun σ f h => remove_ok (B := B) (k + 3) ys σ d M f h hm (by omega)
  have h1 := fun σ o2 o5 o3 f t u M g2 g5 g3 hb hd B' hm hB hc ht hu => w1_ok (B := B') k ys σ o2 o5 o3 b d f t u x M g2 g5 g3 hb hd hm hB hc ht hu hk
  have h2 := fun σ o2 o5 f M g2 g5 hb hd B' hm hB => w2_ok (B := B') k ys σ o2 o5 b d f x M g2 g5 hb hd hm hB
  generalize callY Tab.tb (k + 6) = cy at hch hrm h1 h2 ⊢
  have lb := St.get_lt hb
  have ld := hd.lt
  have hb' := hb
  unfold BR vcells at hb'
  have kS : Kept noX σ ((σ.push (.cells [.ptr b 0])).push (.cells [.sc (.int .i64 t), .sc (.int .i64 w)])) := ((Kept.refl _ _).push _).push _
  unfold vwrite
  by_cases c0 : x.br = 0
  · have d0 : (x.br != 0) = false := by simp [c0]
    rw [if_neg (by simp [c0])]
    by_cases c1 : vmay t w
    · have m1 : (if vmay t w then (0 : Int) else 2) = 0 := if_pos c1
      rw [if_neg (by simp [c1])]
      have kb : Kept noX σ ((σ.push (.cells [.ptr b 0])).push (.cells [.sc (.int .i64 t), .sc (.int .i64 w)])).bump := kS.bump
      have ret : ∀ e : Int, BR ((σ.push (.cells [.ptr b 0])).push (.cells [.sc (.int .i64 t), .sc (.int .i64 w)])).bump b d x ∧ DR ((σ.push (.cells [.ptr b 0])).push (.cells [.sc (.int .i64 t), .sc (.int .i64 w)])).bump d M ∧ Kept (fun o => o = d ∨ o = b) σ ((σ.push (.cells [.ptr b 0])).push (.cells [.sc (.int .i64 t), .sc (.int .i64 w)])).bump := fun _ => ⟨kb.get _ _ (fun h => h) hb, hd.kept kb (fun h => h), kb.any⟩
      by_cases c2 : t < x.t
      · have d2 : decide (t < x.t) = true := by simpa using c2
        rw [if_pos (.inl c2)]
        simp -implicitDefEqProofs (disch := first | exact nbf rfl | exact nbt rfl | (simp only [ne_eq, reduceCtorEq, not_false_eq_true]; done) | omega | (simp -implicitDefEqProofs only [zN.down] <;> omega) | fail) only [Tab.b15, hb', dk.pnil, d0, hch, m1, d2, XOp.kind, reduceCtorEq, V.bool, V.i64, aUn, aBox, aLoad, aArrAddr, aFold, chkAdd, effAdd, AOp.kind, chkAll, chkSee, zP.down, zQ.down, zR.down, simprocAttr]
        exact ret 0
      have d2 : decide (t < x.t) = false := by simpa using c2
      by_cases c3 : t = x.t ∧ w ≠ x.w ∧ x.w ≥ 0
      · have d3 : (t == x.t) = true := by simp [c3.1]
        have d4 : (w != x.w) = true := by simp [c3.2.1]
        have d5 : decide (x.w ≥ 0) = true := by simpa using c3.2.2
        rw [if_pos (.inr c3)]
        simp -implicitDefEqProofs (disch := first | exact nbf rfl | exact nbt rfl | (simp only [ne_eq, reduceCtorEq, not_false_eq_true]; done) | omega | (simp -implicitDefEqProofs only [zN.down] <;> omega) | fail) only [Tab.b15, hb', dk.pnil, d0, hch, m1, d2, d3, d4, d5, XOp.kind, reduceCtorEq, V.bool, V.i64, aUn, aBox, aLoad, aArrAddr, aFold, chkAdd, effAdd, AOp.kind, chkAll, chkSee, zP.down, zQ.down, zR.down, simprocAttr]
        exact ret 0
      rw [if_neg (fun h => h.elim c2 c3)]
      by_cases c4 : t = x.t ∧ w = x.w
      · have d3 : (t == x.t) = true := by simp [c4.1]
        have d4 : (w != x.w) = false := by simp [c4.2]
        have d6 : (w == x.w) = true := by simp [c4.2]
        rw [if_pos c4]
        simp -implicitDefEqProofs (disch := first | exact nbf rfl | exact nbt rfl | (simp only [ne_eq, reduceCtorEq, not_false_eq_true]; done) | omega | (simp -implicitDefEqProofs only [zN.down] <;> omega) | fail) only [Tab.b15, hb', dk.pnil, d0, hch, m1, d2, d3, d4, eq2, d6, XOp.kind, reduceCtorEq, V.bool, V.i64, aUn, aBox, aLoad, aArrAddr, aFold, chkAdd, effAdd, AOp.kind, chkAll, chkSee, zP.down, zQ.down, zR.down, simprocAttr]
        exact ret 0
      rw [if_neg c4]
      have d6 : (t == x.t && w == x.w) = false := by
        rw [Bool.eq_false_iff]; simpa using c4
      have cont : ∃ b1, (t == x.t) = b1 ∧ (b1 = true → (w != x.w) = true ∧ decide (x.w ≥ 0) = false ∧ (w == x.w) = false) := by
        refine ⟨_, rfl, fun h => ?_⟩
        have h1 : t = x.t := by simpa using h
        have h2 : w ≠ x.w := fun h2 => c4 ⟨h1, h2⟩
        refine ⟨by simp [h2], ?_, by simp [h2]⟩
        simp only [decide_eq_false_iff_not]
        exact fun h3 => c3 ⟨h1, h2, h3⟩
      obtain ⟨b1, hb1, hb2⟩ := cont
      by_cases c5 : x.c = 4611686018427387904
      · have d7 : ((x.c : Int) == 4611686018427387904) = true := by simp; omega
        rw [if_pos c5]
        cases b1 with
        | true =>
          obtain ⟨hb3, hb4, hb5⟩ := hb2 rfl
          simp -implicitDefEqProofs (disch := first | exact nbf rfl | exact nbt rfl | (simp only [ne_eq, reduceCtorEq, not_false_eq_true]; done) | omega | (simp -implicitDefEqProofs only [zN.down] <;> omega) | fail) only [Tab.b15, hb', dk.pnil, d0, hch, m1, d2, hb1, hb3, hb4, eq2, hb5, d7, XOp.kind, reduceCtorEq, V.bool, V.i64, aUn, aBox, aLoad, aArrAddr, aFold, chkAdd, effAdd, AOp.kind, chkAll, chkSee, zP.down, zQ.down, zR.down, simprocAttr]
          exact ret 0
        | false =>
          simp -implicitDefEqProofs (disch := first | exact nbf rfl | exact nbt rfl | (simp only [ne_eq, reduceCtorEq, not_false_eq_true]; done) | omega | (simp -implicitDefEqProofs only [zN.down] <;> omega) | fail) only [Tab.b15, hb', dk.pnil, d0, hch, m1, d2, hb1, eq2, Bool.false_and, d7, XOp.kind, reduceCtorEq, V.bool, V.i64, aUn, aBox, aLoad, aArrAddr, aFold, chkAdd, effAdd, AOp.kind, chkAll, chkSee, zP.down, zQ.down, zR.down, simprocAttr]
          exact ret 0
      have d7 : ((x.c : Int) == 4611686018427387904) = false := by simp only [beq_eq_false_iff_ne, ne_eq]; omega
      rw [if_neg c5]
      obtain ⟨E, hE⟩ : ∃ E : DM × VB × Int, E = (if x.n ≥ 8 then
    (if (M.change (1 - x.f : Nat) ⟨3, [], 0⟩).2 ≠ 0 ∧ (M.change (1 - x.f : Nat) ⟨3, [], 0⟩).2 ≠ 4 then ((M.change (1 - x.f : Nat) ⟨3, [], 0⟩).1, { x with br := (M.change (1 - x.f : Nat) ⟨3, [], 0⟩).2 }, (M.change (1 - x.f : Nat) ⟨3, [], 0⟩).2)
     else vput (M.change (1 - x.f : Nat) ⟨3, [], 0⟩).1 x t w (1 - x.f) 0)
  else vput M x t w x.f x.n) := ⟨_, rfl⟩
      rw [← hE]
      simp -implicitDefEqProofs (disch := first | exact nbf rfl | exact nbt rfl | (simp only [ne_eq, reduceCtorEq, not_false_eq_true]; done) | omega | (simp -implicitDefEqProofs only [zN.down] <;> omega) | fail) only [Tab.b15, hb', dk.pnil, d0, hch, m1, d2, XOp.kind, reduceCtorEq, V.bool, V.i64, aUn, aBox, aLoad, aArrAddr, aFold, chkAdd, effAdd, AOp.kind, chkAll, chkSee, zP.down, zQ.down, zR.down, simprocAttr]
      refine w_fin ?_
      refine w_seq ?_
      have hS : ∃ S, S = ((σ.push (.cells [.ptr b 0])).push (.cells [.sc (.int .i64 t), .sc (.int .i64 w)])).bump := ⟨_, rfl⟩
      obtain ⟨S, hS⟩ := hS
      refine W.mono (Q := fun r => ∃ (ρ : Env), r = ((.normal : Ex), ρ, S) ∧ ρ 2 = .ptr σ.n 0 ∧ ρ 3 = .ptr (σ.n + 1) 0) ?_ ?_
      · cases b1 with
        | true =>
          obtain ⟨hb3, hb4, hb5⟩ := hb2 rfl
          simp -implicitDefEqProofs (disch := first | exact nbf rfl | exact nbt rfl | (simp only [ne_eq, reduceCtorEq, not_false_eq_true]; done) | omega | (simp -implicitDefEqProofs only [zN.down] <;> omega) | fail) only [hb', d2, hb1, hb3, hb4, eq2, hb5, d7, XOp.kind, reduceCtorEq, V.bool, V.i64, aUn, aBox, aLoad, aArrAddr, aFold, chkAdd, effAdd, AOp.kind, chkAll, chkSee, zP.down, zQ.down, zR.down, simprocAttr]
          refine ⟨_, by rw [hS], ?_, ?_⟩
          all_goals (simp -implicitDefEqProofs (disch := first | exact nbf rfl | exact nbt rfl | (simp only [ne_eq, reduceCtorEq, not_false_eq_true]; done) | omega | (simp -implicitDefEqProofs only [zN.down] <;> omega) | fail) only [XOp.kind, reduceCtorEq, V.bool, V.i64, aUn, aBox, aLoad, aArrAddr, aFold, aEqV, chkAdd, effAdd, AOp.kind, chkAll, chkSee, zP.down, zQ.down, zR.down, simprocAttr]; done)
        | false =>
          simp -implicitDefEqProofs (disch := first | exact nbf rfl | exact nbt rfl | (simp only [ne_eq, reduceCtorEq, not_false_eq_true]; done) | omega | (simp -implicitDefEqProofs only [zN.down] <;> omega) | fail) only [hb', d2, hb1, eq2, Bool.false_and, d7, XOp.kind, reduceCtorEq, V.bool, V.i64, aUn, aBox, aLoad, aArrAddr, aFold, chkAdd, effAdd, AOp.kind, chkAll, chkSee, zP.down, zQ.down, zR.down, simprocAttr]
          refine ⟨_, by rw [hS], ?_, ?_⟩
          all_goals (simp -implicitDefEqProofs (disch := first | exact nbf rfl | exact nbt rfl | (simp only [ne_eq, reduceCtorEq, not_false_eq_true]; done) | omega | (simp -implicitDefEqProofs only [zN.down] <;> omega) | fail) only [XOp.kind, reduceCtorEq, V.bool, V.i64, aUn, aBox, aLoad, aArrAddr, aFold, aEqV, chkAdd, effAdd, AOp.kind, chkAll, chkSee, zP.down, zQ.down, zR.down, simprocAttr]; done)
      · rintro _ ⟨ρ, rfl, e2, e3⟩
        have s2 : S.get σ.n = some (.cells [.ptr b 0]) := by rw [hS, St.get_bump]; exact get_push_lt get_push_self
        have s3 : S.get (σ.n + 1) = some (.cells [.sc (.int .i64 t), .sc (.int .i64 w)]) := by rw [hS, St.get_bump]; exact get_push_eq (by simp)
        have nS : S.n = σ.n + 3 := by rw [hS]; simp
        rw [← hS] at kb
        have sb := kb.get _ _ (fun h => h) hb'
        have sd := hd.kept kb (fun h => h)
        clear hS ret
        simp -implicitDefEqProofs (disch := first | exact nbf rfl | exact nbt rfl | (simp only [ne_eq, reduceCtorEq, not_false_eq_true]; done) | omega | (simp -implicitDefEqProofs only [zN.down] <;> omega) | fail) only [e2, e3, s2, sb, XOp.kind, reduceCtorEq, V.bool, V.i64, aUn, aBox, aLoad, aArrAddr, aFold, aEqV, chkAdd, effAdd, AOp.kind, chkAll, chkSee, zP.down, zQ.down, zR.down, simprocAttr]
        have kT : Kept noX S ((S.push (.cells [.sc (.int .i64 0)])).put S.n (some (.cells [.sc (.int .i64 x.f)]))) := ((Kept.refl _ _).push _).put (.inr (Nat.le_refl _)) (by simp) _
        have s5 : ((S.push (.cells [.sc (.int .i64 0)])).put S.n (some (.cells [.sc (.int .i64 x.f)]))).get S.n = some (.cells [.sc (.int .i64 x.f)]) := get_put_self (get_push_self (x := .cells [.sc (.int .i64 0)]))
        have nT : ((S.push (.cells [.sc (.int .i64 0)])).put S.n (some (.cells [.sc (.int .i64 x.f)]))).n = σ.n + 4 := by simp [nS]
        generalize hT : ((S.push (.cells [.sc (.int .i64 0)])).put S.n (some (.cells [.sc (.int .i64 x.f)]))) = T at *
        rw [nS] at s5
        try rw [nS]
        have t2 := kT.get _ _ (fun h => h) s2
        have t3 := kT.get _ _ (fun h => h) s3
        have tb := kT.get _ _ (fun h => h) sb
        have td := sd.kept kT (fun h => h)
        have kk : Kept noX σ T := kb.trans kT
        refine w_seq ?_
        refine W.mono (Q := fun r => (∃ (ρ : Env) (σ1 : St) (M1 : DM) (f1 n1 : Nat), r = ((.normal : Ex), ρ, σ1) ∧ E = vput M1 x t w f1 n1 ∧ f1 ≤ 1 ∧ n1 ≤ 1000000 ∧ M1.Ok (B + 1) ∧ DR σ1 d M1 ∧ BR σ1 b d x ∧ σ1.get σ.n = some (.cells [.ptr b 0]) ∧ σ1.get (σ.n + 1) = some (.cells [.sc (.int .i64 t), .sc (.int .i64 w)]) ∧ σ1.get (σ.n + 3) = some (.cells [.sc (.int .i64 f1)]) ∧ Kept (fun o => o = d ∨ o = b) σ σ1 ∧ ρ 2 = .ptr σ.n 0 ∧ ρ 3 = .ptr (σ.n + 1) 0 ∧ ρ 5 = .ptr (σ.n + 3) 0 ∧ ρ 6 = .sc (.int .i64 n1)) ∨ (∃ (ρ : Env) (σ1 : St), r = ((.ret : Ex), ρ, σ1) ∧ ρ 4 = .sc (.int .i64 E.2.2) ∧ BR σ1 b d E.2.1 ∧ DR σ1 d E.1 ∧ Kept (fun o => o = d ∨ o = b) σ σ1)) ?_ ?_
        · by_cases c8 : x.n ≥ 8
          · have d8 : decide ((x.n : Int) ≥ 8) = true := by simp; omega
            have w8 : IntKind.i64.wrap (1 - (x.f : Int)) = ((1 - x.f : Nat) : Int) := by rw [wrap64 (by omega) (by omega)]; omega
            rw [if_pos c8] at hE
            have l5 := St.get_lt s5
            simp -implicitDefEqProofs (disch := first | exact nbf rfl | exact nbt rfl | (simp only [ne_eq, reduceCtorEq, not_false_eq_true]; done) | omega | (simp -implicitDefEqProofs only [zN.down] <;> omega) | fail) only [d8, w8, e2, t2, tb, s5, XOp.kind, reduceCtorEq, V.bool, V.i64, aUn, aBox, aLoad, aArrAddr, aFold, aEqV, chkAdd, effAdd, AOp.kind, chkAll, chkSee, zP.down, zQ.down, zR.down, simprocAttr]
            repeat (first | refine w_fin ?_ | refine w_seq ?_ | refine w_block ?_ | refine w_reg ?_ | refine w_op ?_ | refine w_dop ?_)
            have kU : Kept (fun o => o = σ.n + 3) T (T.put (σ.n + 3) (some (.cells [.sc (.int .i64 ((1 - x.f : Nat) : Int))]))) := Kept.put (X := fun o => o = σ.n + 3) (Kept.refl _ _) (.inl rfl) l5 _
            have u5 : (T.put (σ.n + 3) (some (.cells [.sc (.int .i64 ((1 - x.f : Nat) : Int))]))).get (σ.n + 3) = some (.cells [.sc (.int .i64 ((1 - x.f : Nat) : Int))]) := get_put_self s5
            have kV : Kept noX σ (T.put (σ.n + 3) (some (.cells [.sc (.int .i64 ((1 - x.f : Nat) : Int))]))) := kk.put (.inr (by omega)) l5 _
            generalize (T.put (σ.n + 3) (some (.cells [.sc (.int .i64 ((1 - x.f : Nat) : Int))]))) = U at *
            have u2 := kU.get _ _ (by omega) t2
            have u3 := kU.get _ _ (by omega) t3
            have ub := kU.get _ _ (by omega) tb
            have ud := td.kept kU (by omega)
            refine (hrm U ((1 - x.f : Nat) : Int) ud).mono ?_
            rintro ⟨_, U1⟩ ⟨rfl, vd, k1⟩
            dsimp only at vd k1
            have hm1 := hm.change (f := ((1 - x.f : Nat) : Int)) (c := ⟨3, [], 0⟩) (.inr (.inr rfl))
            generalize M.change ((1 - x.f : Nat) : Int) ⟨3, [], 0⟩ = r at *
            have v2 := k1.get _ _ (by omega) u2
            have v3 := k1.get _ _ (by omega) u3
            have v5 := k1.get _ _ (by omega) u5
            have vb := k1.get _ _ hbd ub
            have lvb := St.get_lt vb
            have kW : Kept (fun o => o = d ∨ o = b) σ U1 := kV.any.trans (k1.sub fun o h => .inl h)
            by_cases c9 : r.2 ≠ 0 ∧ r.2 ≠ 4
            · have d9 : (r.2 != 0) = true := by simp [c9.1]
              have d10 : (r.2 != 4) = true := by simp [c9.2]
              rw [if_pos c9] at hE
              simp -implicitDefEqProofs (disch := first | exact nbf rfl | exact nbt rfl | (simp only [ne_eq, reduceCtorEq, not_false_eq_true]; done) | omega | (simp -implicitDefEqProofs only [zN.down] <;> omega) | fail) only [d9, d10, e2, v2, vb, XOp.kind, reduceCtorEq, V.bool, V.i64, aUn, aBox, aLoad, aArrAddr, aFold, aEqV, chkAdd, effAdd, AOp.kind, chkAll, chkSee, zP.down, zQ.down, zR.down, simprocAttr]
              right
              refine ⟨_, _, rfl, ?_, ?_, ?_, kW.put (.inl (.inr rfl)) lvb _⟩
              · rw [hE]; simp -implicitDefEqProofs (disch := first | exact nbf rfl | exact nbt rfl | (simp only [ne_eq, reduceCtorEq, not_false_eq_true]; done) | omega | (simp -implicitDefEqProofs only [zN.down] <;> omega) | fail) only [XOp.kind, reduceCtorEq, V.bool, V.i64, aUn, aBox, aLoad, aArrAddr, aFold, aEqV, chkAdd, effAdd, AOp.kind, chkAll, chkSee, zP.down, zQ.down, zR.down, simprocAttr]
              · rw [hE]; exact get_put_self vb
              · rw [hE]; exact vd.kept (X := (· = b)) (Kept.put (X := (· = b)) (Kept.refl _ _) (.inl rfl) lvb _) (fun h => hbd h.symm)
            · rw [if_neg c9] at hE
              have cnd : ∃ b9, (r.2 != 0) = b9 ∧ (b9 = true → (r.2 != 4) = false) := by
                refine ⟨_, rfl, fun h => ?_⟩
                simp only [bne_iff_ne, ne_eq] at h
                by_cases h4 : r.2 = 4
                · simp [h4]
                · exact absurd ⟨h, h4⟩ c9
              obtain ⟨b9, h9, h10⟩ := cnd
              cases b9 with
              | true =>
                have h11 := h10 rfl
                simp -implicitDefEqProofs (disch := first | exact nbf rfl | exact nbt rfl | (simp only [ne_eq, reduceCtorEq, not_false_eq_true]; done) | omega | (simp -implicitDefEqProofs only [zN.down] <;> omega) | fail) only [h9, h11, e2, v2, vb, XOp.kind, reduceCtorEq, V.bool, V.i64, aUn, aBox, aLoad, aArrAddr, aFold, aEqV, chkAdd, effAdd, AOp.kind, chkAll, chkSee, zP.down, zQ.down, zR.down, simprocAttr]
                left
                refine ⟨_, _, r.1, 1 - x.f, 0, rfl, hE, by omega, by omega, hm1, vd, vb, v2, v3, v5, kW, ?_, ?_, ?_, ?_⟩
                all_goals (simp -implicitDefEqProofs (disch := first | exact nbf rfl | exact nbt rfl | (simp only [ne_eq, reduceCtorEq, not_false_eq_true]; done) | omega | (simp -implicitDefEqProofs only [zN.down] <;> omega) | fail) only [e2, e3, XOp.kind, reduceCtorEq, V.bool, V.i64, aUn, aBox, aLoad, aArrAddr, aFold, aEqV, chkAdd, effAdd, AOp.kind, chkAll, chkSee, zP.down, zQ.down, zR.down, simprocAttr]; done)
              | false =>
                simp -implicitDefEqProofs (disch := first | exact nbf rfl | exact nbt rfl | (simp only [ne_eq, reduceCtorEq, not_false_eq_true]; done) | omega | (simp -implicitDefEqProofs only [zN.down] <;> omega) | fail) only [h9, e2, v2, vb, XOp.kind, reduceCtorEq, V.bool, V.i64, aUn, aBox, aLoad, aArrAddr, aFold, aEqV, chkAdd, effAdd, AOp.kind, chkAll, chkSee, zP.down, zQ.down, zR.down, simprocAttr]
                left
                refine ⟨_, _, r.1, 1 - x.f, 0, rfl, hE, by omega, by omega, hm1, vd, vb, v2, v3, v5, kW, ?_, ?_, ?_, ?_⟩
                all_goals (simp -implicitDefEqProofs (disch := first | exact nbf rfl | exact nbt rfl | (simp only [ne_eq, reduceCtorEq, not_false_eq_true]; done) | omega | (simp -implicitDefEqProofs only [zN.down] <;> omega) | fail) only [e2, e3, XOp.kind, reduceCtorEq, V.bool, V.i64, aUn, aBox, aLoad, aArrAddr, aFold, aEqV, chkAdd, effAdd, AOp.kind, chkAll, chkSee, zP.down, zQ.down, zR.down, simprocAttr]; done)
          · have d8 : decide ((x.n : Int) ≥ 8) = false := by simp; omega
            rw [if_neg c8] at hE
            simp -implicitDefEqProofs (disch := first | exact nbf rfl | exact nbt rfl | (simp only [ne_eq, reduceCtorEq, not_false_eq_true]; done) | omega | (simp -implicitDefEqProofs only [zN.down] <;> omega) | fail) only [d8, XOp.kind, reduceCtorEq, V.bool, V.i64, aUn, aBox, aLoad, aArrAddr, aFold, aEqV, chkAdd, effAdd, AOp.kind, chkAll, chkSee, zP.down, zQ.down, zR.down, simprocAttr]
            left
            refine ⟨_, _, M, x.f, x.n, rfl, hE, hxf, hxn, hm.more (by omega), td, tb, t2, t3, s5, kk.any, ?_, ?_, ?_, ?_⟩
            all_goals (simp -implicitDefEqProofs (disch := first | exact nbf rfl | exact nbt rfl | (simp only [ne_eq, reduceCtorEq, not_false_eq_true]; done) | omega | (simp -implicitDefEqProofs only [zN.down] <;> omega) | fail) only [e2, e3, XOp.kind, reduceCtorEq, V.bool, V.i64, aUn, aBox, aLoad, aArrAddr, aFold, aEqV, chkAdd, effAdd, AOp.kind, chkAll, chkSee, zP.down, zQ.down, zR.down, simprocAttr]; done)
        · rintro _ (⟨ρ, σ1, M1, f1, n1, rfl, hE1, hf1, hn1, hm1, vd, vb, v2, v3, v5, kW, e2, e3, e5, e6⟩ | ⟨ρ, σ1, rfl, e4, vb, vd, kW⟩)
          · clear hE
            have cm := c1
            unfold vmay at cm
            obtain ⟨tn, rfl⟩ : ∃ n : Nat, t = n := ⟨t.toNat, by omega⟩
            obtain ⟨u, rfl⟩ : ∃ u : Nat, w = (u : Int) - 1 := ⟨(w + 1).toNat, by omega⟩
            have hvp : vput M1 x tn ((u : Int) - 1) f1 n1 = E := hE1.symm
            unfold vput at hvp
            rw [show ((u : Int) - 1 + 1).toNat = u by omega, Int.toNat_natCast] at hvp
            have f1' := h1 σ1 σ.n (σ.n + 3) (σ.n + 1) f1 tn u M1 v2 v5 v3 vb vd (B + 1) hm1 (by omega) (by omega) (by omega) (by omega)
            have hm2 := hm1.change (f := (f1 : Int)) (c := ⟨1, fput (vpay (x.c + 1) tn u), 0⟩) (.inl rfl)
            simp -implicitDefEqProofs (disch := first | exact nbf rfl | exact nbt rfl | (simp only [ne_eq, reduceCtorEq, not_false_eq_true]; done) | omega | (simp -implicitDefEqProofs only [zN.down] <;> omega) | fail) only [e2, e3, e5, s_loop, s_iter, s_itern, s_iterr, s_itere, XOp.kind, reduceCtorEq, V.bool, V.i64, aUn, aBox, aLoad, aArrAddr, aFold, aEqV, chkAdd, effAdd, AOp.kind, chkAll, chkSee, zP.down, zQ.down, zR.down, simprocAttr]
            repeat (first | refine w_fin ?_ | refine w_seq ?_ | refine w_block ?_ | refine w_reg ?_ | refine w_op ?_ | refine w_dop ?_)
            refine w_strict (f := stIter _ _) ?_
            repeat (first | refine w_fin ?_ | refine w_seq ?_ | refine w_block ?_ | refine w_reg ?_ | refine w_op ?_ | refine w_dop ?_)
            refine f1'.mono ?_
            rintro ⟨_, σ2⟩ ⟨rfl, wd, k2⟩
            dsimp only at wd k2
            have x2 := k2.get _ _ (by omega) v2
            have x3 := k2.get _ _ (by omega) v3
            have x5 := k2.get _ _ (by omega) v5
            have xb := k2.get _ _ hbd vb
            have kX : Kept (fun o => o = d ∨ o = b) σ σ2 := kW.trans (k2.sub fun o h => .inl h)
            generalize M1.change f1 ⟨1, fput (vpay (x.c + 1) tn u), 0⟩ = q at *
            have lxb := St.get_lt xb
            have xb' := xb
            unfold vcells at xb'
            by_cases c9 : q.2 = 0
            · have d9 : (q.2 != 0) = false := by simp [c9]
              rw [if_neg (by simp [c9])] at hvp
              have f2' := h2 σ2 σ.n (σ.n + 3) f1 q.1 x2 x5 xb wd (B + 1 + 1) hm2 (by omega)
              simp -implicitDefEqProofs (disch := first | exact nbf rfl | exact nbt rfl | (simp only [ne_eq, reduceCtorEq, not_false_eq_true]; done) | omega | (simp -implicitDefEqProofs only [zN.down] <;> omega) | fail) only [d9, e2, e5, x2, x5, s_iter, s_itern, s_iterr, s_itere, XOp.kind, reduceCtorEq, V.bool, V.i64, aUn, aBox, aLoad, aArrAddr, aFold, aEqV, chkAdd, effAdd, AOp.kind, chkAll, chkSee, zP.down, zQ.down, zR.down, simprocAttr]
              repeat (first | refine w_fin ?_ | refine w_seq ?_ | refine w_block ?_ | refine w_reg ?_ | refine w_op ?_ | refine w_dop ?_)
              refine w_strict (f := stIter _ _) ?_
              repeat (first | refine w_fin ?_ | refine w_seq ?_ | refine w_block ?_ | refine w_reg ?_ | refine w_op ?_ | refine w_dop ?_)
              refine f2'.mono ?_
              rintro ⟨_, σ3⟩ ⟨rfl, yd, k3⟩
              dsimp only at yd k3
              have y2 := k3.get _ _ (by omega) x2
              have y3 := k3.get _ _ (by omega) x3
              have y5 := k3.get _ _ (by omega) x5
              have yb := k3.get _ _ hbd xb
              have kY : Kept (fun o => o = d ∨ o = b) σ σ3 := kX.trans (k3.sub fun o h => .inl h)
              generalize q.1.sync f1 = z at *
              have lyb := St.get_lt yb
              have yb' := yb
              unfold vcells at yb'
              by_cases c10 : z.2 = 0
              · have d10 : (z.2 != 0) = false := by simp [c10]
                rw [if_neg (by simp [c10])] at hvp
                have wc : IntKind.u64.wrap ((x.c : Int) + 1) = ((x.c + 1 : Nat) : Int) := by
                  rw [show (x.c : Int) + 1 = ((x.c + 1 : Nat) : Int) by omega]; exact wrap_u64 (by omega)
                have wn : IntKind.i64.wrap ((n1 : Int) + 1) = ((n1 + 1 : Nat) : Int) := wrap64 (by omega) (by omega)
                simp -implicitDefEqProofs (disch := first | exact nbf rfl | exact nbt rfl | (simp only [ne_eq, reduceCtorEq, not_false_eq_true]; done) | omega | (simp -implicitDefEqProofs only [zN.down] <;> omega) | fail) only [d10, s_iter, s_itern, s_itere, XOp.kind, reduceCtorEq, V.bool, V.i64, aUn, aBox, aLoad, aArrAddr, aFold, aEqV, chkAdd, effAdd, AOp.kind, chkAll, chkSee, zP.down, zQ.down, zR.down, simprocAttr]
                simp -implicitDefEqProofs (disch := first | exact nbf rfl | exact nbt rfl | (simp only [ne_eq, reduceCtorEq, not_false_eq_true]; done) | omega | (simp -implicitDefEqProofs only [zN.down] <;> omega) | fail) only [e2, e3, e5, e6, y2, y3, y5, yb', wc, wn, XOp.kind, reduceCtorEq, V.bool, V.i64, aUn, aBox, aLoad, aArrAddr, aFold, aEqV, chkAdd, effAdd, AOp.kind, chkAll, chkSee, zP.down, zQ.down, zR.down, simprocAttr]
                rw [← hvp]
                refine ⟨rfl, ?_, ?_, ?_⟩
                · unfold BR vcells
                  dsimp only
                  rw [get_put_eq rfl (by simp; exact lyb), c0]
                · refine yd.kept (X := (· = b)) ?_ (fun h => hbd h.symm)
                  have k0 : Kept (· = b) σ3 σ3 := Kept.refl _ _
                  exact (((k0.put (.inl rfl) lyb _).put (.inl rfl) (by simp; exact lyb) _).put (.inl rfl) (by simp; exact lyb) _).put (.inl rfl) (by simp; exact lyb) _
                · exact (((kY.put (.inl (.inr rfl)) lyb _).put (.inl (.inr rfl)) (by simp; exact lyb) _).put (.inl (.inr rfl)) (by simp; exact lyb) _).put (.inl (.inr rfl)) (by simp; exact lyb) _
              · have d10 : (z.2 != 0) = true := by simp [c10]
                rw [if_pos c10] at hvp
                simp -implicitDefEqProofs (disch := first | exact nbf rfl | exact nbt rfl | (simp only [ne_eq, reduceCtorEq, not_false_eq_true]; done) | omega | (simp -implicitDefEqProofs only [zN.down] <;> omega) | fail) only [d10, e2, y2, yb', s_iterr, XOp.kind, reduceCtorEq, V.bool, V.i64, aUn, aBox, aLoad, aArrAddr, aFold, aEqV, chkAdd, effAdd, AOp.kind, chkAll, chkSee, zP.down, zQ.down, zR.down, simprocAttr]
                rw [← hvp]
                refine ⟨rfl, ?_, ?_, kY.put (.inl (.inr rfl)) lyb _⟩
                · unfold BR vcells
                  dsimp only
                  rw [get_put_eq rfl lyb]
                · exact yd.kept (X := (· = b)) (Kept.put (X := (· = b)) (Kept.refl _ _) (.inl rfl) lyb _) (fun h => hbd h.symm)
            · have d9 : (q.2 != 0) = true := by simp [c9]
              rw [if_pos c9] at hvp
              simp -implicitDefEqProofs (disch := first | exact nbf rfl | exact nbt rfl | (simp only [ne_eq, reduceCtorEq, not_false_eq_true]; done) | omega | (simp -implicitDefEqProofs only [zN.down] <;> omega) | fail) only [d9, e2, x2, xb', s_iterr, XOp.kind, reduceCtorEq, V.bool, V.i64, aUn, aBox, aLoad, aArrAddr, aFold, aEqV, chkAdd, effAdd, AOp.kind, chkAll, chkSee, zP.down, zQ.down, zR.down, simprocAttr]
              rw [← hvp]
              refine ⟨rfl, ?_, ?_, kX.put (.inl (.inr rfl)) lxb _⟩
              · unfold BR vcells
                dsimp only
                rw [get_put_eq rfl lxb]
              · exact wd.kept (X := (· = b)) (Kept.put (X := (· = b)) (Kept.refl _ _) (.inl rfl) lxb _) (fun h => hbd h.symm)
          · simp -implicitDefEqProofs (disch := first | exact nbf rfl | exact nbt rfl | (simp only [ne_eq, reduceCtorEq, not_false_eq_true]; done) | omega | (simp -implicitDefEqProofs only [zN.down] <;> omega) | fail) only [e4, XOp.kind, reduceCtorEq, V.bool, V.i64, aUn, aBox, aLoad, aArrAddr, aFold, aEqV, chkAdd, effAdd, AOp.kind, chkAll, chkSee, zP.down, zQ.down, zR.down, simprocAttr]
            exact ⟨vb, vd, kW⟩
    · have m1 : (if vmay t w then (0 : Int) else 2) = 2 := if_neg c1
      rw [if_pos c1]
      simp -implicitDefEqProofs (disch := first | exact nbf rfl | exact nbt rfl | (simp only [ne_eq, reduceCtorEq, not_false_eq_true]; done) | omega | (simp -implicitDefEqProofs only [zN.down] <;> omega) | fail) only [Tab.b15, hb', dk.pnil, d0, hch, m1, XOp.kind, reduceCtorEq, V.bool, V.i64, aUn, aBox, aLoad, aArrAddr, aFold, chkAdd, effAdd, AOp.kind, chkAll, chkSee, zP.down, zQ.down, zR.down, simprocAttr]
      exact ⟨kS.bump.get _ _ (fun h => h) hb, hd.kept kS.bump (fun h => h), kS.bump.any⟩
  · have d0 : (x.br != 0) = true := by simp [c0]
    rw [if_pos c0]
    simp -implicitDefEqProofs (disch := first | exact nbf rfl | exact nbt rfl | (simp only [ne_eq, reduceCtorEq, not_false_eq_true]; done) | omega | (simp -implicitDefEqProofs only [zN.down] <;> omega) | fail) only [Tab.b15, hb', dk.pnil, d0, XOp.kind, reduceCtorEq, V.bool, V.i64, aUn, aBox, aLoad, aArrAddr, aFold, chkAdd, effAdd, AOp.kind, chkAll, chkSee, zP.down, zQ.down, zR.down, simprocAttr]
    exact ⟨kS.get _ _ (fun h => h) hb, hd.kept kS (fun h => h), kS.any⟩
end Go.Proofs.Ytllkidpebjgkeaa.vt
namespace Go.Proofs.Ytllkidpebjgkeaa.vt
open Go.Ab fr dk
set_option maxRecDepth 100000
set_option maxHeartbeats 8000000
set_option linter.unusedSimpArgs false
set_option linter.unusedVariables false

/-! ## Frames, and a beginning of one -/
theorem vok_len {p : List UInt8} (h : vok p = true) : p.length = 17 := by
  unfold vok at h; exact (of_decide_eq_true h).1
theorem flen_vok {l : List (List UInt8)} (h : ∀ p ∈ l, vok p = true) : flen l = 29 * l.length := by
  induction l with
  | nil => rfl
  | cons p l ih =>
    have h1 := vok_len (h p List.mem_cons_self)
    simp only [flen, List.length_cons]
    rw [ih fun q hq => h q (List.mem_cons_of_mem _ hq), h1]
    omega

/-! ## A file that is read -/
theorem read_n {M : DM} (hp : M.power ≠ 0) {n : Nat} (hn : n < 32) : M.read (n : Int) = if (M.f n).seen.there = false then ([], 4) else ((M.f n).seen.s, 0) := by
  unfold DM.read
  have h0 : ¬ ((n : Int) < 0 ∨ 32 ≤ (n : Int)) := by omega
  rw [if_neg hp, if_neg h0, see_in (by omega) (by omega), Int.toNat_natCast]
def DM.dn (M : DM) : DM := { M with power := if 0 < M.power then M.power - 1 else M.power, ops := M.ops + 1 }
theorem change_0 {M : DM} (hp : M.power = 0) (f : Int) (c : Ch) : M.change f c = (M, 40) := by
  unfold DM.change DM.step
  rw [if_pos hp]
  rfl
theorem change_e {M : DM} (hp : M.power ≠ 0) {f : Nat} (hf : f < 32) {c : Ch} (he : M.may f c ≠ 0) : M.change f c = (M, M.may f c) := by
  have h0 : ¬ ((f : Int) < 0 ∨ 32 ≤ (f : Int)) := by omega
  unfold DM.change DM.step
  rw [if_neg hp, if_neg h0, if_pos he]
  dsimp only
  rw [if_neg he]
theorem change_y {M : DM} (hp : M.power ≠ 0) {f : Nat} (hf : f < 32) {c : Ch} (he : M.may f c = 0) : M.change f c = ((DM.dn M).upd f ((M.f f).add c), 0) := by
  have h0 : ¬ ((f : Int) < 0 ∨ 32 ≤ (f : Int)) := by omega
  unfold DM.change DM.step
  rw [if_neg hp, if_neg h0, he]
  simp only [ne_eq, not_true_eq_false, if_false, if_true, Int.toNat_natCast]
  rfl
theorem sync_y {M : DM} (hp : M.power ≠ 0) {f : Nat} (hf : f < 32) : M.sync f = ((DM.dn M).upd f ⟨(M.f f).seen, []⟩, 0) := by
  have h0 : ¬ ((f : Int) < 0 ∨ 32 ≤ (f : Int)) := by omega
  unfold DM.sync DM.step
  rw [if_neg hp, if_neg h0]
  simp only [ne_eq, not_true_eq_false, if_false, if_true, Int.toNat_natCast]
  rfl
end Go.Proofs.Ytllkidpebjgkeaa.vt
namespace Go.Proofs.Ytllkidpebjgkeaa.vt
open Go.Ab fr dk
set_option maxRecDepth 100000
set_option maxHeartbeats 8000000
set_option linter.unusedSimpArgs false
set_option linter.unusedVariables false

theorem vopen_ok {M : DM} {B : Nat} (h : M.Ok B) : (vopen M).1.Ok (B + 4) := by
  unfold vopen
  split
  · exact h.more (by omega)
  · unfold vrest vrest vrest
    have h1 := vfile_ok h x0 (1 - 1)
    split
    · exact h1.more (by omega)
    · have h2 := vfile_ok h1 (vfile M x0 (1 - 1)).2.1 (1 - 0)
      split
      · exact h2
      · exact h2
theorem vput_ok {M : DM} {B : Nat} (h : M.Ok B) (x : VB) (t w : Int) (f n : Nat) : (vput M x t w f n).1.Ok (B + 2) := by
  have h1 := h.change (f := (f : Int)) (c := ⟨1, fput (vpay (x.c + 1) t.toNat (w + 1).toNat), 0⟩) (.inl rfl)
  unfold vput
  split
  · exact h1.more (by omega)
  · split
    · exact h1.sync _
    · exact h1.sync _
theorem vwrite_ok {M : DM} {B : Nat} (h : M.Ok B) (x : VB) (t w : Int) : (vwrite M x t w).1.Ok (B + 3) := by
  have h3 := h.more (show B ≤ B + 3 by omega)
  have h1 := h.change (f := ((1 - x.f : Nat) : Int)) (c := ⟨3, [], 0⟩) (.inr (.inr rfl))
  unfold vwrite
  split
  · exact h3
  split
  · exact h3
  split
  · exact h3
  split
  · exact h3
  split
  · exact h3
  split
  · split
    · exact h1.more (by omega)
    · exact vput_ok h1 _ _ _ _ _
  · exact (vput_ok h _ _ _ _ _).more (by omega)
theorem works_run : (callY Tab.tb 9223372036854775999 noYl 8 [] St.empty).map (·.1) = some (.sc (.bool true)) := by kernel_rfl
theorem works_ok : ∃ σ1, callY Tab.tb (9223372036854775992 + 7) noYl 8 [] St.empty = some (.sc (.bool true), σ1) := by
  have h := works_run
  rw [Option.map_eq_some_iff] at h
  obtain ⟨⟨v, σ1⟩, h1, h2⟩ := h
  exact ⟨σ1, by rw [show (9223372036854775992 + 7 : Nat) = 9223372036854775999 from rfl, h1]; simp only at h2; rw [h2]⟩
end Go.Proofs.Ytllkidpebjgkeaa.vt
