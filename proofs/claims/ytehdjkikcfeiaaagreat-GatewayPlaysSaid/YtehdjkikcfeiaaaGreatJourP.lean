/- Journals: the document's reader, sends. Journals: the document's sends. Journals: the document's Open, Add. -/
import Derived.Test.YtehdjkikcfeiaaaGreatJourK
import Derived.Test.YtehdjkikcfeiaaaGreatDiskRX
import Derived.Test.YtehdjkikcfeiaaaGreatFrO
namespace Go.Proofs.YtehdjkikcfeiaaaGreat.jn
open Go.Ab fr dk
set_option maxRecDepth 100000
set_option maxHeartbeats 8000000
set_option linter.unusedSimpArgs false
set_option linter.unusedVariables false
theorem rdnum_ok (k : Nat) (ys : YlF) (σ : St) (o : Nat) (r : Rd) (n : Nat) (h : fr.RR σ o r) (hl : r.s.length ≤ 140737488355328) (ha : r.at' ≤ r.s.length) (hn : n ≤ 8) (hk : 20 ≤ k) :
  W (callY Tab.tb (k + 1) ys 74 [.ptr o 0, .sc (.int .i64 (n : Int))] σ) fun q => q.1 = .sc (.int .u64 (r.num n : Nat)) ∧ fr.RR q.2 o (r.go n) ∧ Kept (· = o) σ q.2 := by
 rw [s_call (af := Tab.b74) rfl (Nat.le_of_ble_eq_true rfl)]
 generalize callY Tab.tb k = cy
 unfold fr.RR at *
 have gl := St.get_lt h
 by_cases c1 : r.err = 0
 rotate_left
 · have d1 : ((r.err : Int) != 0) = true := by simp; omega
   have hgo : r.go n = r := by unfold Rd.go; rw [if_pos c1]
   have hnum : r.num n = 0 := by unfold Rd.num; rw [if_pos (.inl c1)]
   rw [hgo, hnum]
   simp -implicitDefEqProofs (disch := first | exact nbf rfl | exact nbt rfl | (simp only [zN.down, reduceCtorEq] <;> omega) | omega) only [Tab.b74, h, d1, XOp.kind, AOp.kind, zU.down, simprocAttr]
   exact Kept.refl _ _
 have d1 : ((r.err : Int) != 0) = false := by simp [c1]
 have hz : ((r.err : Nat) : Int) = 0 := by omega
 have w1 : IntKind.i64.wrap ((r.s.length : Int) - (r.at' : Int)) = (r.s.length : Int) - (r.at' : Int) := wrap64 (by omega) (by omega)
 by_cases c2 : r.s.length - r.at' < n
 · have d2 : decide ((r.s.length : Int) - (r.at' : Int) < (n : Int)) = true := by simp; omega
   have hgo : r.go n = { r with err := 7, bad := r.at' } := by unfold Rd.go; rw [if_neg (by omega), if_pos c2]
   have hnum : r.num n = 0 := by unfold Rd.num; rw [if_pos (.inr c2)]
   rw [hgo, hnum]
   simp -implicitDefEqProofs (disch := first | exact nbf rfl | exact nbt rfl | (simp only [zN.down, reduceCtorEq] <;> omega) | omega) only [Tab.b74, h, d1, w1, d2, XOp.kind, AOp.kind, zU.down, simprocAttr]
   exact (Kept.put (X := (· = o)) (Kept.refl _ _) (.inl rfl) gl _).put (.inl rfl) (by simp; exact gl) _
 have d2 : decide ((r.s.length : Int) - (r.at' : Int) < (n : Int)) = false := by simp; omega
 have hgo : r.go n = { r with at' := r.at' + n } := by unfold Rd.go; rw [if_neg (by omega), if_neg c2]
 have hnum : r.num n = val ((r.s.drop r.at').take n) := by unfold Rd.num; rw [if_neg (by omega)]
 rw [hgo, hnum]
 simp -implicitDefEqProofs (disch := first | exact nbf rfl | exact nbt rfl | (simp only [zN.down, reduceCtorEq] <;> omega) | omega) only [Tab.b74, h, d1, w1, d2, XOp.kind, AOp.kind, zU.down, simprocAttr]
 repeat first | apply w_fin | apply w_seq | apply w_block | apply w_reg | apply w_op | apply w_dop
 refine W.mono (Q := fun q => ∃ (ρ : Env), q = ((.exit 0 : Ex), ρ, σ) ∧ ρ 0 = .ptr o 0 ∧ ρ 1 = .sc (.int .i64 n) ∧ ρ 5 = .sc (.int .u64 (val ((r.s.drop r.at').take n) : Nat))) ?_ ?_
 · refine w_loop (fun m ρ σ' => ∃ i, m = n - i ∧ i ≤ n ∧ σ' = σ ∧ ρ 0 = .ptr o 0 ∧ ρ 1 = .sc (.int .i64 n) ∧ ρ 5 = .sc (.int .u64 (val ((r.s.drop r.at').take i) : Nat)) ∧ ρ 6 = .sc (.int .i64 i)) n (by omega) ?_ ?_
   · refine ⟨0, rfl, Nat.zero_le _, rfl, ?_, ?_, ?_, ?_⟩
     all_goals first | rfl | (simp -implicitDefEqProofs (disch := first | exact nbf rfl | exact nbt rfl | (simp only [zN.down, reduceCtorEq] <;> omega) | omega) only [XOp.kind, AOp.kind, zU.down, simprocAttr]; done) | (simp -implicitDefEqProofs (disch := first | exact nbf rfl | exact nbt rfl | (simp only [zN.down, reduceCtorEq] <;> omega) | omega) only [XOp.kind, AOp.kind, zU.down, simprocAttr]; rfl)
   · rintro m ρ σ' ⟨i, hm, hi, rfl, e0, e1, e5, e6⟩
     by_cases hil : i < n
     · have c3 : decide ((i : Int) < (n : Int)) = true := by simp; omega
       have hat : r.at' + i < r.s.length := by omega
       have a1 := str_at hat
       have hv := val_lt ((r.s.drop r.at').take (i + 1))
       have hdl : ((r.s.drop r.at').take (i + 1)).length = i + 1 := by rw [List.length_take, List.length_drop]; omega
       rw [hdl] at hv
       have hp : 256 ^ (i + 1) ≤ 256 ^ 8 := Nat.pow_le_pow_right (by decide) (by omega)
       have hp8 : (256 : Nat) ^ 8 = 18446744073709551616 := by decide
       have hsn : val ((r.s.drop r.at').take (i + 1)) = val ((r.s.drop r.at').take i) * 256 + r.s[r.at' + i].toNat := by
        have hdl2 : i < (r.s.drop r.at').length := by rw [List.length_drop]; omega
        rw [List.take_add_one, List.getElem?_eq_getElem hdl2]
        show val ((r.s.drop r.at').take i ++ [(r.s.drop r.at')[i]]) = _
        rw [val_snoc, List.getElem_drop]
       have hb := r.s[r.at' + i].toNat_lt
       have w2 : IntKind.i64.wrap ((r.at' : Int) + (i : Int)) = ((r.at' + i : Nat) : Int) := by rw [wrap64 (by omega) (by omega)]; omega
       have u1 : IntKind.u64.wrap ((val ((r.s.drop r.at').take i) : Int) * 256) = ((val ((r.s.drop r.at').take i) * 256 : Nat) : Int) := by
        rw [show (val ((r.s.drop r.at').take i) : Int) * 256 = ((val ((r.s.drop r.at').take i) * 256 : Nat) : Int) by omega]; exact wrap_u64 (by omega)
       have u2 : IntKind.u64.wrap ((r.s[r.at' + i].toNat : Nat) : Int) = ((r.s[r.at' + i].toNat : Nat) : Int) := wrap_u64 (by omega)
       have u3 : IntKind.u64.wrap (((val ((r.s.drop r.at').take i) * 256 : Nat) : Int) + ((r.s[r.at' + i].toNat : Nat) : Int)) = ((val ((r.s.drop r.at').take (i + 1)) : Nat) : Int) := by
        rw [hsn, show ((val ((r.s.drop r.at').take i) * 256 : Nat) : Int) + ((r.s[r.at' + i].toNat : Nat) : Int) = ((val ((r.s.drop r.at').take i) * 256 + r.s[r.at' + i].toNat : Nat) : Int) by omega]; exact wrap_u64 (by omega)
       have w3 : IntKind.i64.wrap ((i : Int) + 1) = ((i + 1 : Nat) : Int) := wrap64 (by omega) (by omega)
       clear hsn hv hdl
       generalize r.s[r.at' + i].toNat = b at *
       generalize val ((r.s.drop r.at').take i) = z at *
       generalize hz1 : val ((r.s.drop r.at').take (i + 1)) = z1 at *
       simp -implicitDefEqProofs (disch := first | exact nbf rfl | exact nbt rfl | (simp only [zN.down, reduceCtorEq] <;> omega) | omega) only [c3, e0, e1, e5, e6, h, a1, u1, u2, u3, w2, w3, XOp.kind, AOp.kind, zU.down, simprocAttr]
       exact ⟨n - (i + 1), by omega, i + 1, rfl, hil, by rw [hz1], rfl⟩
     · have c3 : decide ((i : Int) < (n : Int)) = false := by simp; omega
       have : i = n := by omega
       subst this
       simp -implicitDefEqProofs (disch := first | exact nbf rfl | exact nbt rfl | (simp only [zN.down, reduceCtorEq] <;> omega) | omega) only [c3, e1, e6, XOp.kind, AOp.kind, zU.down, simprocAttr]
       refine ⟨_, rfl, ?_, ?_, ?_⟩
       all_goals (simp -implicitDefEqProofs (disch := first | exact nbf rfl | exact nbt rfl | (simp only [zN.down, reduceCtorEq] <;> omega) | omega) only [e0, e1, e5, XOp.kind, AOp.kind, zU.down, simprocAttr]; done)
 · rintro _ ⟨ρ, rfl, e0, e1, e5⟩
   have w4 : IntKind.i64.wrap ((r.at' : Int) + (n : Int)) = ((r.at' + n : Nat) : Int) := by rw [wrap64 (by omega) (by omega)]; omega
   simp -implicitDefEqProofs (disch := first | exact nbf rfl | exact nbt rfl | (simp only [zN.down, reduceCtorEq] <;> omega) | omega) only [e0, e1, e5, h, w4, XOp.kind, AOp.kind, zU.down, simprocAttr]
   exact Kept.put (X := (· = o)) (Kept.refl _ _) (.inl rfl) gl _
theorem rdtext_ok (k : Nat) (ys : YlF) (σ : St) (o : Nat) (r : Rd) (h : fr.RR σ o r) (hl : r.s.length ≤ 1048576) (ha : r.at' ≤ r.s.length) (hk : 20 ≤ k) :
  W (callY Tab.tb (k + 2) ys 75 [.ptr o 0, .sc (.int .i64 64)] σ) fun q => ∃ s r', q.1 = .str s ∧ fr.RR q.2 o r' ∧ r'.s = r.s ∧ Kept (· = o) σ q.2 ∧ (Rd.has r → s = Rd.tx r ∧ r' = { r with at' := r.at' + 4 + val ((r.s.drop r.at').take 4) }) ∧ (¬ Rd.has r → r'.err ≠ 0) := by
 rw [s_call (af := Tab.b75) rfl (Nat.le_of_ble_eq_true rfl)]
 have hnum := fun σ r h hl ha => rdnum_ok k ys σ o r 4 h hl ha (by omega) hk
 generalize callY Tab.tb (k + 1) = cy at hnum ⊢
 have g := h
 unfold fr.RR at g
 simp -implicitDefEqProofs (disch := first | exact nbf rfl | exact nbt rfl | (simp only [zN.down, reduceCtorEq] <;> omega) | omega) only [Tab.b75, g, XOp.kind, AOp.kind, zU.down, simprocAttr]
 repeat first | apply w_fin | apply w_seq | apply w_block | apply w_reg | apply w_op | apply w_dop
 refine (hnum σ r h (by omega) ha).mono ?_
 rintro ⟨_, σ1⟩ ⟨rfl, h1, k1⟩
 dsimp only at h1 k1
 have hlt := num_lt r 4
 have hs1 := Rd.go_s r 4
 have ha1 := Rd.go_le ha 4
 have hnv : r.num 4 = if r.err ≠ 0 ∨ r.s.length - r.at' < 4 then 0 else val ((r.s.drop r.at').take 4) := rfl
 have hgo : r.go 4 = if r.err ≠ 0 then r else if r.s.length - r.at' < 4 then { r with err := 7, bad := r.at' } else { r with at' := r.at' + 4 } := rfl
 generalize r.num 4 = n at *
 generalize hr1 : r.go 4 = r1 at *
 have g1 := h1
 unfold fr.RR at g1
 have gl1 := St.get_lt g1
 by_cases c1 : r1.err = 0
 rotate_left
 · have d1 : ((r1.err : Int) != 0) = true := by simp; omega
   simp -implicitDefEqProofs (disch := first | exact nbf rfl | exact nbt rfl | (simp only [zN.down, reduceCtorEq] <;> omega) | omega) only [g1, d1, XOp.kind, AOp.kind, zU.down, simprocAttr]
   refine ⟨[], r1, rfl, h1, hs1, k1, fun hh => ?_, fun _ => c1⟩
   obtain ⟨q1, q2, _, _⟩ := hh
   rw [if_neg (by simp [q1]), if_neg (by omega)] at hgo
   rw [hgo] at c1
   exact absurd q1 c1
 have d1 : ((r1.err : Int) != 0) = false := by simp [c1]
 have c0 : r.err = 0 := by
  by_cases c : r.err = 0
  · exact c
  · rw [if_pos c] at hgo; rw [hgo] at c1; exact c1
 rw [if_neg (by simp [c0])] at hgo
 have c4 : ¬ r.s.length - r.at' < 4 := by
  intro c; rw [if_pos c] at hgo; rw [hgo] at c1; cases c1
 rw [if_neg c4] at hgo
 rw [if_neg (by omega)] at hnv
 have hat : r1.at' = r.at' + 4 := by rw [hgo]
 have w1 : IntKind.u64.wrap (64 : Int) = 64 := by decide
 by_cases c2 : n > 64
 · have d2 : decide ((n : Int) > 64) = true := by simp; omega
   simp -implicitDefEqProofs (disch := first | exact nbf rfl | exact nbt rfl | (simp only [zN.down, reduceCtorEq] <;> omega) | omega) only [g1, d1, w1, d2, XOp.kind, AOp.kind, zU.down, simprocAttr]
   refine ⟨[], ⟨r1.s, r1.at', 3, r.at'⟩, rfl, ?_, hs1, ?_, fun hh => ?_, fun _ => by dsimp only; decide⟩
   · unfold fr.RR
     simp -implicitDefEqProofs (disch := first | exact nbf rfl | exact nbt rfl | (simp only [zN.down, reduceCtorEq] <;> omega) | omega) only [XOp.kind, AOp.kind, zU.down, simprocAttr]
   · exact (k1.put (.inl rfl) gl1 _).put (.inl rfl) (by simp; exact gl1) _
   · exact absurd hh.2.2.1 (by omega)
 have d2 : decide ((n : Int) > 64) = false := by simp; omega
 have w2 : IntKind.i64.wrap ((r1.s.length : Int) - (r1.at' : Int)) = (r1.s.length : Int) - (r1.at' : Int) := wrap64 (by rw [hs1] at *; omega) (by rw [hs1] at *; omega)
 have w3 : IntKind.u64.wrap ((r1.s.length : Int) - (r1.at' : Int)) = (r1.s.length : Int) - (r1.at' : Int) := by
  obtain ⟨z, hz⟩ : ∃ z : Nat, (r1.s.length : Int) - (r1.at' : Int) = z := ⟨r1.s.length - r1.at', by omega⟩
  rw [hz]
  exact wrap_u64 (by rw [hs1] at *; omega)
 by_cases c3 : r1.s.length - r1.at' < n
 · have d3 : decide ((n : Int) > (r1.s.length : Int) - (r1.at' : Int)) = true := by simp; omega
   simp -implicitDefEqProofs (disch := first | exact nbf rfl | exact nbt rfl | (simp only [zN.down, reduceCtorEq] <;> omega) | omega) only [g1, d1, w1, d2, w2, w3, d3, XOp.kind, AOp.kind, zU.down, simprocAttr]
   refine ⟨[], ⟨r1.s, r1.at', 7, r.at'⟩, rfl, ?_, hs1, ?_, fun hh => ?_, fun _ => by dsimp only; decide⟩
   · unfold fr.RR
     simp -implicitDefEqProofs (disch := first | exact nbf rfl | exact nbt rfl | (simp only [zN.down, reduceCtorEq] <;> omega) | omega) only [XOp.kind, AOp.kind, zU.down, simprocAttr]
   · exact (k1.put (.inl rfl) gl1 _).put (.inl rfl) (by simp; exact gl1) _
   · have := hh.2.2.2
     rw [hs1, hat] at c3
     omega
 · have d3 : decide ((n : Int) > (r1.s.length : Int) - (r1.at' : Int)) = false := by simp; omega
   have w4 : IntKind.i64.wrap (n : Int) = (n : Nat) := wrap64 (by omega) (by omega)
   have w5 : IntKind.i64.wrap ((r1.at' : Int) + (n : Int)) = ((r1.at' + n : Nat) : Int) := by rw [wrap64 (by rw [hs1] at *; omega) (by rw [hs1] at *; omega)]; omega
   have h3 := str_sl (s := r1.s) (l := r1.at') (h := r1.at' + n) (by omega) (by omega)
   rw [Nat.add_sub_cancel_left] at h3
   have hh : Rd.has r := ⟨c0, by omega, by omega, by rw [hs1, hat] at c3; omega⟩
   simp -implicitDefEqProofs (disch := first | exact nbf rfl | exact nbt rfl | (simp only [zN.down, reduceCtorEq] <;> omega) | omega) only [g1, d1, w1, d2, w2, w3, d3, w4, w5, h3, XOp.kind, AOp.kind, zU.down, simprocAttr]
   refine ⟨_, ⟨r1.s, r1.at' + n, r1.err, r1.bad⟩, rfl, ?_, hs1, k1.put (.inl rfl) gl1 _, fun _ => ⟨?_, ?_⟩, fun hn => absurd hh hn⟩
   · unfold fr.RR
     simp -implicitDefEqProofs (disch := first | exact nbf rfl | exact nbt rfl | (simp only [zN.down, reduceCtorEq] <;> omega) | omega) only [XOp.kind, AOp.kind, zU.down, simprocAttr]
   · unfold Rd.tx
     rw [hs1, hat, hnv]
   · rw [hgo, hnv]
theorem rdend_ok (k : Nat) (ys : YlF) (σ : St) (o : Nat) (r : Rd) (h : fr.RR σ o r) :
  W (callY Tab.tb (k + 1) ys 76 [.ptr o 0] σ) fun q => ∃ b, q.1 = .tup [.sc (.int .i64 (Rd.end' r : Nat)), .sc (.int .i64 b)] ∧ Kept noX σ q.2 := by
 rw [s_call (af := Tab.b76) rfl (Nat.le_of_ble_eq_true rfl)]
 generalize callY Tab.tb k = cy
 unfold fr.RR at h
 unfold Rd.end'
 by_cases c1 : r.err = 0
 · have d1 : ((r.err : Int) == 0) = true := by simp [c1]
   rw [if_neg (by simp [c1])]
   by_cases c2 : r.at' < r.s.length
   · have d2 : decide ((r.at' : Int) < (r.s.length : Int)) = true := by simpa using c2
     rw [if_pos c2]
     simp -implicitDefEqProofs (disch := first | exact nbf rfl | exact nbt rfl | (simp only [zN.down, reduceCtorEq] <;> omega) | omega) only [Tab.b76, h, d1, d2, XOp.kind, AOp.kind, zU.down, simprocAttr]
     exact ⟨_, rfl, Kept.refl _ _⟩
   · have d2 : decide ((r.at' : Int) < (r.s.length : Int)) = false := by simpa using c2
     rw [if_neg c2]
     simp -implicitDefEqProofs (disch := first | exact nbf rfl | exact nbt rfl | (simp only [zN.down, reduceCtorEq] <;> omega) | omega) only [Tab.b76, h, d1, d2, c1, XOp.kind, AOp.kind, zU.down, simprocAttr]
     exact ⟨_, rfl, Kept.refl _ _⟩
 · have d1 : ((r.err : Int) == 0) = false := by simp; omega
   rw [if_pos c1]
   simp -implicitDefEqProofs (disch := first | exact nbf rfl | exact nbt rfl | (simp only [zN.down, reduceCtorEq] <;> omega) | omega) only [Tab.b76, h, d1, XOp.kind, AOp.kind, zU.down, simprocAttr]
   exact ⟨_, rfl, Kept.refl _ _⟩
theorem rnumber_ok (k : Nat) (ys : YlF) (σ : St) (n : Nat) (hn : n < 18446744073709551616) : callY Tab.tb (k + 1) ys 73 [.sc (.int .u64 (n : Int))] σ = some (.sc (.int .i64 ((if n > 1099511627776 then 0 else n : Nat) : Int)), σ) := by
 rw [s_call (af := Tab.b73) rfl (Nat.le_of_ble_eq_true rfl)]
 generalize callY Tab.tb k = cy
 by_cases c : n > 1099511627776
 · have d : decide ((n : Int) > 1099511627776) = true := by simp; omega
   rw [if_pos c]
   simp -implicitDefEqProofs (disch := first | exact nbf rfl | exact nbt rfl | (simp only [zN.down, reduceCtorEq] <;> omega) | omega) only [Tab.b73, d, XOp.kind, AOp.kind, zU.down, simprocAttr]
 · have d : decide ((n : Int) > 1099511627776) = false := by simp; omega
   have w1 : IntKind.i64.wrap (n : Int) = n := wrap64 (by omega) (by omega)
   rw [if_neg c]
   simp -implicitDefEqProofs (disch := first | exact nbf rfl | exact nbt rfl | (simp only [zN.down, reduceCtorEq] <;> omega) | omega) only [Tab.b73, d, w1, XOp.kind, AOp.kind, zU.down, simprocAttr]
theorem rcheck_ok (k : Nat) (ys : YlF) (σ : St) (x : Tk) : callY Tab.tb (k + 1) ys 77 [.agg (tkc x)] σ = some (.sc (.int .i64 (tchk x)), σ.bump) := by
 rw [s_call (af := Tab.b77) rfl (Nat.le_of_ble_eq_true rfl)]
 generalize callY Tab.tb k = cy
 rcases x with ⟨a, b, c, d, t⟩
 unfold tkc tchk
 dsimp only
 by_cases c1 : a < 1
 · have d1 : decide (a < 1) = true := by simpa using c1
   rw [if_pos (show tbad ⟨a, b, c, d, t⟩ by unfold tbad; dsimp only; omega)]
   simp -implicitDefEqProofs (disch := first | exact nbf rfl | exact nbt rfl | (simp only [zN.down, reduceCtorEq] <;> omega) | omega) only [Tab.b77, d1, XOp.kind, AOp.kind, zU.down, simprocAttr]
 have d1 : decide (a < 1) = false := by simpa using c1
 by_cases c2 : a > 1048576
 · have d2 : decide (a > 1048576) = true := by simpa using c2
   rw [if_pos (show tbad ⟨a, b, c, d, t⟩ by unfold tbad; dsimp only; omega)]
   simp -implicitDefEqProofs (disch := first | exact nbf rfl | exact nbt rfl | (simp only [zN.down, reduceCtorEq] <;> omega) | omega) only [Tab.b77, d1, d2, XOp.kind, AOp.kind, zU.down, simprocAttr]
 have d2 : decide (a > 1048576) = false := by simpa using c2
 by_cases c3 : b < 1
 · have d3 : decide (b < 1) = true := by simpa using c3
   rw [if_pos (show tbad ⟨a, b, c, d, t⟩ by unfold tbad; dsimp only; omega)]
   simp -implicitDefEqProofs (disch := first | exact nbf rfl | exact nbt rfl | (simp only [zN.down, reduceCtorEq] <;> omega) | omega) only [Tab.b77, d1, d2, d3, XOp.kind, AOp.kind, zU.down, simprocAttr]
 have d3 : decide (b < 1) = false := by simpa using c3
 by_cases c4 : b > 1099511627776
 · have d4 : decide (b > 1099511627776) = true := by simpa using c4
   rw [if_pos (show tbad ⟨a, b, c, d, t⟩ by unfold tbad; dsimp only; omega)]
   simp -implicitDefEqProofs (disch := first | exact nbf rfl | exact nbt rfl | (simp only [zN.down, reduceCtorEq] <;> omega) | omega) only [Tab.b77, d1, d2, d3, d4, XOp.kind, AOp.kind, zU.down, simprocAttr]
 have d4 : decide (b > 1099511627776) = false := by simpa using c4
 by_cases c5 : c < 1
 · have d5 : decide (c < 1) = true := by simpa using c5
   rw [if_pos (show tbad ⟨a, b, c, d, t⟩ by unfold tbad; dsimp only; omega)]
   simp -implicitDefEqProofs (disch := first | exact nbf rfl | exact nbt rfl | (simp only [zN.down, reduceCtorEq] <;> omega) | omega) only [Tab.b77, d1, d2, d3, d4, d5, XOp.kind, AOp.kind, zU.down, simprocAttr]
 have d5 : decide (c < 1) = false := by simpa using c5
 by_cases c6 : c > 1048576
 · have d6 : decide (c > 1048576) = true := by simpa using c6
   rw [if_pos (show tbad ⟨a, b, c, d, t⟩ by unfold tbad; dsimp only; omega)]
   simp -implicitDefEqProofs (disch := first | exact nbf rfl | exact nbt rfl | (simp only [zN.down, reduceCtorEq] <;> omega) | omega) only [Tab.b77, d1, d2, d3, d4, d5, d6, XOp.kind, AOp.kind, zU.down, simprocAttr]
 have d6 : decide (c > 1048576) = false := by simpa using c6
 by_cases c7 : d < 1
 · have d7 : decide (d < 1) = true := by simpa using c7
   rw [if_pos (show tbad ⟨a, b, c, d, t⟩ by unfold tbad; dsimp only; omega)]
   simp -implicitDefEqProofs (disch := first | exact nbf rfl | exact nbt rfl | (simp only [zN.down, reduceCtorEq] <;> omega) | omega) only [Tab.b77, d1, d2, d3, d4, d5, d6, d7, XOp.kind, AOp.kind, zU.down, simprocAttr]
 have d7 : decide (d < 1) = false := by simpa using c7
 by_cases c8 : d > 1048576
 · have d8 : decide (d > 1048576) = true := by simpa using c8
   rw [if_pos (show tbad ⟨a, b, c, d, t⟩ by unfold tbad; dsimp only; omega)]
   simp -implicitDefEqProofs (disch := first | exact nbf rfl | exact nbt rfl | (simp only [zN.down, reduceCtorEq] <;> omega) | omega) only [Tab.b77, d1, d2, d3, d4, d5, d6, d7, d8, XOp.kind, AOp.kind, zU.down, simprocAttr]
 have d8 : decide (d > 1048576) = false := by simpa using c8
 rw [if_neg (show ¬ tbad ⟨a, b, c, d, t⟩ by unfold tbad; dsimp only; omega)]
 by_cases c9 : t.length > 64
 · have d9 : decide ((t.length : Int) > 64) = true := by simp; omega
   rw [if_pos c9]
   simp -implicitDefEqProofs (disch := first | exact nbf rfl | exact nbt rfl | (simp only [zN.down, reduceCtorEq] <;> omega) | omega) only [Tab.b77, d1, d2, d3, d4, d5, d6, d7, d8, d9, XOp.kind, AOp.kind, zU.down, simprocAttr]
 · have d9 : decide ((t.length : Int) > 64) = false := by simp; omega
   rw [if_neg c9]
   simp -implicitDefEqProofs (disch := first | exact nbf rfl | exact nbt rfl | (simp only [zN.down, reduceCtorEq] <;> omega) | omega) only [Tab.b77, d1, d2, d3, d4, d5, d6, d7, d8, d9, XOp.kind, AOp.kind, zU.down, simprocAttr]
end Go.Proofs.YtehdjkikcfeiaaaGreat.jn
namespace Go.Proofs.YtehdjkikcfeiaaaGreat.jn
open Go.Ab fr dk
set_option maxRecDepth 100000
set_option maxHeartbeats 8000000
set_option linter.unusedSimpArgs false
set_option linter.unusedVariables false
def rdw (p : List UInt8) (j : Nat) : Nat := if (rdn p j).num 8 > 1099511627776 then 0 else (rdn p j).num 8
theorem rdw_is {p : List UInt8} {j : Nat} (h : 8 * j + 8 ≤ p.length) : rdw p j = if val ((p.drop (8 * j)).take 8) > 1099511627776 then 0 else val ((p.drop (8 * j)).take 8) := by
 have hn : (rdn p j).num 8 = val ((p.drop (8 * j)).take 8) := by
  rcases rdn_is p j with ⟨h1, h2⟩ | ⟨h1, _⟩
  · rw [h2]
    unfold Rd.num
    rw [if_neg (by simp only [ne_eq, not_true_eq_false, false_or]; omega)]
  · omega
 unfold rdw
 rw [hn]
def xow (p s : List UInt8) : Tk := ⟨(rdw p 0 : Nat), (rdw p 1 : Nat), (rdw p 2 : Nat), (rdw p 3 : Nat), s⟩
theorem clip (a : Nat) : ∃ c : Nat, (if a > 1099511627776 then 0 else a) = c ∧ ((a > 1099511627776 ∧ c = 0) ∨ (a ≤ 1099511627776 ∧ c = a)) := by
 refine ⟨_, rfl, ?_⟩
 split <;> omega
theorem xow_ok {p : List UInt8} (h : 36 ≤ p.length) : (tchk (xow p (p.drop 36)) = 0 ↔ tchk (tkp p) = 0) ∧ (tchk (tkp p) = 0 → xow p (p.drop 36) = tkp p) := by
 have e0 := rdw_is (p := p) (j := 0) (by omega)
 have e1 := rdw_is (p := p) (j := 1) (by omega)
 have e2 := rdw_is (p := p) (j := 2) (by omega)
 have e3 := rdw_is (p := p) (j := 3) (by omega)
 simp only [Nat.mul_zero, List.drop_zero, Nat.mul_one, (show 8 * 2 = 16 from rfl), (show 8 * 3 = 24 from rfl)] at e0 e1 e2 e3
 unfold xow tkp
 rw [e0, e1, e2, e3]
 generalize val (p.take 8) = a
 generalize val ((p.drop 8).take 8) = b
 generalize val ((p.drop 16).take 8) = c
 generalize val ((p.drop 24).take 8) = d
 obtain ⟨a', ha, ha'⟩ := clip a
 obtain ⟨b', hb, hb'⟩ := clip b
 obtain ⟨c', hc, hc'⟩ := clip c
 obtain ⟨d', hd, hd'⟩ := clip d
 rw [ha, hb, hc, hd, tchk_0, tchk_0]
 unfold tbad
 dsimp only
 refine ⟨by omega, fun h => ?_⟩
 simp only [Tk.mk.injEq, and_true]
 omega
theorem rread_ok (k : Nat) (ys : YlF) (σ : St) (p : List UInt8) (hp : p.length ≤ 1048576) (hk : 20 ≤ k) :
  W (callY Tab.tb (k + 3) ys 49 [.str p] σ) fun r => ∃ x, r.1 = .tup [.agg (tkc x), .sc (.bool (tok p))] ∧ (tok p = true → x = tkp p) ∧ Kept noX σ r.2 := by
 rw [s_call (af := Tab.b49) rfl (Nat.le_of_ble_eq_true rfl)]
 have h64 := fun σ o r h hl ha => rdnum_ok (k + 1) ys σ o r 8 h hl ha (by omega) (by omega)
 have hnb := fun σ n hn => rnumber_ok (k + 1) ys σ n hn
 have htx := fun σ o r h hl ha => rdtext_ok k ys σ o r h hl ha hk
 have hend := fun σ o r h => rdend_ok (k + 1) ys σ o r h
 have hch := fun σ x => rcheck_ok (k + 1) ys σ x
 generalize callY Tab.tb (k + 2) = cy at h64 hnb htx hend hch ⊢
 have n64 : ∀ j, (rdn p j).num 8 < 18446744073709551616 := fun j => by have := num_lt (rdn p j) 8; simpa using this
 have hw : ∀ j, (if (rdn p j).num 8 > 1099511627776 then 0 else (rdn p j).num 8) = rdw p j := fun j => rfl
 simp -implicitDefEqProofs (disch := first | exact nbf rfl | exact nbt rfl | (simp only [zN.down, reduceCtorEq] <;> omega) | omega) only [Tab.b49, XOp.kind, AOp.kind, zU.down, simprocAttr]
 repeat first | apply w_fin | apply w_seq | apply w_block | apply w_reg | apply w_op | apply w_dop
 have r0 : fr.RR ((σ.bump.push (.cells [.str p, .sc (.int .i64 0), .sc (.int .i64 0), .sc (.int .i64 0)])).bump) (σ.n + 1) (rdn p 0) := by
  have := RR.new σ.bump p
  unfold fr.RR at this ⊢
  rw [St.get_bump]
  exact this
 have k0 : Kept noX σ (σ.bump.push (.cells [.str p, .sc (.int .i64 0), .sc (.int .i64 0), .sc (.int .i64 0)])).bump := ((Kept.refl noX σ).bump.push _).bump
 generalize ((σ.bump.push (.cells [.str p, .sc (.int .i64 0), .sc (.int .i64 0), .sc (.int .i64 0)])).bump) = σ1 at *
 have step : ∀ {σa σb : St}, Kept noX σ σa → Kept (· = σ.n + 1) σa σb → Kept noX σ σb := fun ka kb => ⟨Nat.le_trans ka.n kb.n, fun o z _ ho => kb.get o z (by have := St.get_lt ho; omega) (ka.get o z (fun h => h) ho)⟩
 refine (h64 σ1 (σ.n + 1) (rdn p 0) r0 (by rw [rdn_s]; omega) (rdn_le p 0)).mono ?_
 rintro ⟨_, σ2⟩ ⟨rfl, r1, k1⟩
 dsimp only at r1 k1
 have n1 := fun σ => hnb σ _ (n64 0)
 rw [hw] at n1
 have k1 := step k0 k1
 simp -implicitDefEqProofs (disch := first | exact nbf rfl | exact nbt rfl | (simp only [zN.down, reduceCtorEq] <;> omega) | omega) only [n1, XOp.kind, AOp.kind, zU.down, simprocAttr]
 repeat first | apply w_fin | apply w_seq | apply w_block | apply w_reg | apply w_op | apply w_dop
 refine (h64 σ2 (σ.n + 1) (rdn p 1) r1 (by rw [rdn_s]; omega) (rdn_le p 1)).mono ?_
 rintro ⟨_, σ3⟩ ⟨rfl, r2, k2⟩
 dsimp only at r2 k2
 have n2 := fun σ => hnb σ _ (n64 1)
 rw [hw] at n2
 have k2 := step k1 k2
 simp -implicitDefEqProofs (disch := first | exact nbf rfl | exact nbt rfl | (simp only [zN.down, reduceCtorEq] <;> omega) | omega) only [n2, XOp.kind, AOp.kind, zU.down, simprocAttr]
 repeat first | apply w_fin | apply w_seq | apply w_block | apply w_reg | apply w_op | apply w_dop
 refine (h64 σ3 (σ.n + 1) (rdn p 2) r2 (by rw [rdn_s]; omega) (rdn_le p 2)).mono ?_
 rintro ⟨_, σ4⟩ ⟨rfl, r3, k3⟩
 dsimp only at r3 k3
 have n3 := fun σ => hnb σ _ (n64 2)
 rw [hw] at n3
 have k3 := step k2 k3
 simp -implicitDefEqProofs (disch := first | exact nbf rfl | exact nbt rfl | (simp only [zN.down, reduceCtorEq] <;> omega) | omega) only [n3, XOp.kind, AOp.kind, zU.down, simprocAttr]
 repeat first | apply w_fin | apply w_seq | apply w_block | apply w_reg | apply w_op | apply w_dop
 refine (h64 σ4 (σ.n + 1) (rdn p 3) r3 (by rw [rdn_s]; omega) (rdn_le p 3)).mono ?_
 rintro ⟨_, σ5⟩ ⟨rfl, r4, k4⟩
 dsimp only at r4 k4
 have n4 := fun σ => hnb σ _ (n64 3)
 rw [hw] at n4
 have k4 := step k3 k4
 simp -implicitDefEqProofs (disch := first | exact nbf rfl | exact nbt rfl | (simp only [zN.down, reduceCtorEq] <;> omega) | omega) only [n4, XOp.kind, AOp.kind, zU.down, simprocAttr]
 repeat first | apply w_fin | apply w_seq | apply w_block | apply w_reg | apply w_op | apply w_dop
 refine (htx σ5 (σ.n + 1) (rdn p 4) r4 (by rw [rdn_s]; exact hp) (rdn_le p 4)).mono ?_
 rintro ⟨_, σ6⟩ ⟨s, r', rfl, hr', hs', k5, t1, t2⟩
 dsimp only at hr' k5
 rw [rdn_s] at hs'
 have k5 := step k4 k5
 simp -implicitDefEqProofs (disch := first | exact nbf rfl | exact nbt rfl | (simp only [zN.down, reduceCtorEq] <;> omega) | omega) only [XOp.kind, AOp.kind, zU.down, simprocAttr]
 repeat first | apply w_fin | apply w_seq | apply w_block | apply w_reg | apply w_op | apply w_dop
 refine (hend σ6 (σ.n + 1) r' hr').mono ?_
 rintro ⟨_, σ7⟩ ⟨b, rfl, k6⟩
 dsimp only at k6
 have k6 := k5.trans k6
 have hc := hch σ7 (xow p s)
 simp only [tkc, xow] at hc
 by_cases q : Rd.end' r' = 0
 · have d1 : ((Rd.end' r' : Int) == 0) = true := by rw [q]; rfl
   have hhas : Rd.has (rdn p 4) := by
    by_cases hh : Rd.has (rdn p 4)
    · exact hh
    · have := t2 hh
      unfold Rd.end' at q
      rw [if_pos this] at q
      exact absurd q this
   obtain ⟨hst, hr'e⟩ := t1 hhas
   obtain ⟨hq1, hq2⟩ : 8 * 4 ≤ p.length ∧ rdn p 4 = ⟨p, 8 * 4, 0, 0⟩ := by
    rcases rdn_is p 4 with h | h
    · exact h
    · exact absurd hhas.1 h.2
   rw [hq2] at hst hr'e hhas
   unfold Rd.has at hhas
   unfold Rd.tx at hst
   dsimp only at hst hr'e hhas
   rw [hr'e] at q
   unfold Rd.end' at q
   dsimp only at q
   rw [if_neg (by simp)] at q
   have hle : ¬ (8 * 4 + 4 + val ((p.drop (8 * 4)).take 4) < p.length) := by
    intro h; rw [if_pos h] at q; cases q
   have hlen : val ((p.drop 32).take 4) + 36 = p.length := by
    have h1 := hhas.2.1
    have h2 := hhas.2.2.2
    simp only [(show 8 * 4 = 32 from rfl)] at hle h1 h2
    omega
   have hs36 : s = p.drop 36 := by
    rw [hst]
    show (p.drop 36).take (val ((p.drop 32).take 4)) = _
    exact List.take_of_length_le (by rw [List.length_drop]; omega)
   subst hs36
   obtain ⟨x1, x2⟩ := xow_ok (p := p) (by omega)
   by_cases m : tchk (tkp p) = 0
   · have hv : tok p = true := decide_eq_true ⟨by omega, hlen, m⟩
     have m0 := x1.2 m
     unfold xow at m0
     rw [m0] at hc
     simp -implicitDefEqProofs (disch := first | exact nbf rfl | exact nbt rfl | (simp only [zN.down, reduceCtorEq] <;> omega) | omega) only [d1, hc, hv, XOp.kind, AOp.kind, zU.down, simprocAttr]
     exact ⟨xow p (p.drop 36), rfl, fun _ => x2 m, k6.bump⟩
   · have hv : tok p = false := decide_eq_false (fun h => m h.2.2)
     have m0 : (tchk (xow p (p.drop 36)) == 0) = false := by simp only [beq_eq_false_iff_ne, ne_eq]; exact fun h => m (x1.1 h)
     unfold xow at m0
     simp -implicitDefEqProofs (disch := first | exact nbf rfl | exact nbt rfl | (simp only [zN.down, reduceCtorEq] <;> omega) | omega) only [d1, hc, m0, hv, XOp.kind, AOp.kind, zU.down, simprocAttr]
     exact ⟨xow p (p.drop 36), rfl, (fun h => by cases h), k6.bump⟩
 · have d1 : ((Rd.end' r' : Int) == 0) = false := by simp; omega
   have hv : tok p = false := by
    refine decide_eq_false ?_
    rintro ⟨h1, h2, h3⟩
    have h4 := (tchk_0.1 h3).2
    simp only [tkp, List.length_drop] at h4
    obtain ⟨hq1, hq2⟩ : 8 * 4 ≤ p.length ∧ rdn p 4 = ⟨p, 8 * 4, 0, 0⟩ := by
     rcases rdn_is p 4 with h | h
     · exact h
     · exact absurd h.1 (by omega)
    have hhas : Rd.has (rdn p 4) := by
     rw [hq2]
     refine ⟨rfl, ?_, ?_, ?_⟩
     · dsimp only; omega
     · show val ((p.drop 32).take 4) ≤ 64; omega
     · show val ((p.drop 32).take 4) + 4 ≤ p.length - 32; omega
    obtain ⟨_, hr'e⟩ := t1 hhas
    apply q
    rw [hr'e, hq2]
    unfold Rd.end'
    dsimp only
    rw [if_neg (by simp), if_neg]
    show ¬ (32 + 4 + val ((p.drop 32).take 4) < p.length)
    omega
   simp -implicitDefEqProofs (disch := first | exact nbf rfl | exact nbt rfl | (simp only [zN.down, reduceCtorEq] <;> omega) | omega) only [d1, hv, XOp.kind, AOp.kind, zU.down, simprocAttr]
   exact ⟨xow p s, rfl, (fun h => by cases h), k6⟩
theorem tkc_cells {v : V} {l : List Tk} (h : RV 5 v (l.map tkc)) {i : Nat} (hi : i < l.length) : (l.map tkc).flatten[i * 5]? = some (.sc (.int .i64 l[i].talk)) ∧ (l.map tkc).flatten[i * 5 + 3]? = some (.sc (.int .i64 l[i].seq)) ∧ ((l.map tkc).flatten.drop (i * 5 + 1)).take 2 = [.sc (.int .i64 l[i].term), .sc (.int .i64 l[i].ep)] ∧ (i * 5 + 1 + 2 ≤ (l.map tkc).flatten.length) = True := by
 have c0 := h.cellAt (i := i) (j := 0) (by simpa using hi) (by omega)
 have c3 := h.cellAt (i := i) (j := 3) (by simpa using hi) (by omega)
 obtain ⟨a1, a2, a3⟩ := tkc_at h hi
 have a2 := of_eq_true a2
 have e : ((l.map tkc).flatten.drop (i * 5 + 1)).take 2 = ((((l.map tkc).flatten.drop (i * 5)).take 5).drop 1).take 2 := by
  rw [List.drop_take, List.take_take, List.drop_drop]
  rfl
 refine ⟨by simpa [tkc] using c0, by simpa [tkc] using c3, by rw [e, a3]; rfl, by simp only [eq_iff_iff, iff_true]; omega⟩
theorem rnext_ok (k : Nat) (ys : YlF) (σ : St) (v : V) (l : List Tk) (t : Int) (hv : RV 5 v (l.map tkc)) (hs : ∀ x ∈ l, tchk x = 0) (hl : l.length ≤ 1000000) (hk : 1000020 ≤ k) :
  W (callY Tab.tb (k + 1) ys 40 [v, .sc (.int .i64 t)] σ) fun r => r.1 = .tup [.agg [.sc (.int .i64 (tnx l t).f), .sc (.int .i64 (tnx l t).e)], .sc (.int .i64 (tnx l t).n)] ∧ Kept noX σ r.2 := by
 rw [s_call (af := Tab.b40) rfl (Nat.le_of_ble_eq_true rfl)]
 generalize callY Tab.tb k = cy
 have vlen := hv.len
 have vsize := hv.size
 rw [List.length_map] at vlen
 simp -implicitDefEqProofs (disch := first | exact nbf rfl | exact nbt rfl | (simp only [zN.down, reduceCtorEq] <;> omega) | omega) only [Tab.b40, XOp.kind, AOp.kind, zU.down, simprocAttr]
 repeat first | apply w_fin | apply w_seq | apply w_block | apply w_reg | apply w_op | apply w_dop
 refine W.mono (Q := fun r => ∃ (ρ : Env) (σ' : St), r = ((.exit 0 : Ex), ρ, σ') ∧ ρ 4 = .agg [.sc (.int .i64 0), .sc (.int .i64 0)] ∧ ρ 6 = .agg [.sc (.int .i64 (tnx l t).f), .sc (.int .i64 (tnx l t).e)] ∧ ρ 7 = .sc (.int .i64 (tnx l t).n) ∧ Kept noX σ σ') ?_ ?_
 · refine w_loop (fun m ρ σ' => ∃ i : Nat, m = l.length - i ∧ i ≤ l.length ∧ ρ 0 = v ∧ ρ 1 = .sc (.int .i64 t) ∧ ρ 4 = .agg [.sc (.int .i64 0), .sc (.int .i64 0)] ∧ ρ 6 = .agg [.sc (.int .i64 (tnx (l.take i) t).f), .sc (.int .i64 (tnx (l.take i) t).e)] ∧ ρ 7 = .sc (.int .i64 (tnx (l.take i) t).n) ∧ ρ 8 = .sc (.int .i64 i) ∧ Kept noX σ σ') l.length (by omega) ?_ ?_
   · refine ⟨0, rfl, Nat.zero_le _, ?_, ?_, ?_, ?_, ?_, ?_, ?_⟩
     all_goals first | rfl | (((repeat (first | refine Kept.push ?_ _ | refine Kept.bump ?_ | refine Kept.put ?_ (.inr (by omega)) (by first | omega | (simp only [St.n_put, St.n_push]; omega)) _)); first | exact Kept.refl _ _ | assumption); done) | (simp -implicitDefEqProofs (disch := first | exact nbf rfl | exact nbt rfl | (simp only [zN.down, reduceCtorEq] <;> omega) | omega) only [XOp.kind, AOp.kind, zU.down, simprocAttr]; done) | (simp -implicitDefEqProofs (disch := first | exact nbf rfl | exact nbt rfl | (simp only [zN.down, reduceCtorEq] <;> omega) | omega) only [tnx, XOp.kind, AOp.kind, zU.down, simprocAttr]; rfl) | (simp -implicitDefEqProofs (disch := first | exact nbf rfl | exact nbt rfl | (simp only [zN.down, reduceCtorEq] <;> omega) | omega) only [tnx, List.foldl_nil, XOp.kind, AOp.kind, zU.down, simprocAttr]; done)
   · rintro m ρ σ' ⟨i, hm, hi, e0, e1, e4, e6, e7, e8, kp⟩
     by_cases hil : i < l.length
     · have c1 : decide ((i : Int) < (l.length : Int)) = true := by simpa using hil
       obtain ⟨a1, _, _⟩ := tkc_at hv hil
       obtain ⟨b0, b3, b12, bl⟩ := tkc_cells hv hil
       have hst := tnx_snoc (l.take i) t l[i]
       have htk : l.take i ++ [l[i]] = l.take (i + 1) := by rw [List.take_add_one, List.getElem?_eq_getElem hil]; rfl
       rw [htk] at hst
       have hq := (tchk_0.1 (hs _ (List.getElem_mem hil))).1
       unfold tbad at hq
       unfold tst at hst
       generalize l[i] = x at *
       have w1 : IntKind.i64.wrap ((i : Int) + 1) = ((i + 1 : Nat) : Int) := wrap64 (by omega) (by omega)
       have w2 : IntKind.i64.wrap (x.seq + 1) = x.seq + 1 := wrap64 (by omega) (by omega)
       by_cases ht : x.talk = t
       · have c2 := beq_iff_eq.2 ht
         rw [if_pos ht] at hst
         simp -implicitDefEqProofs (disch := first | exact nbf rfl | exact nbt rfl | (simp only [zN.down, reduceCtorEq] <;> omega) | omega) only [c1, e0, e1, e4, e6, e7, e8, vlen, vsize, a1, b0, b3, b12, bl, c2, w1, w2, XOp.kind, AOp.kind, zU.down, simprocAttr]
         exact ⟨l.length - (i + 1), by omega, i + 1, rfl, hil, by rw [hst], by rw [hst], rfl, kp⟩
       · have c2 := beq_eq_false_iff_ne.2 ht
         rw [if_neg ht] at hst
         simp -implicitDefEqProofs (disch := first | exact nbf rfl | exact nbt rfl | (simp only [zN.down, reduceCtorEq] <;> omega) | omega) only [c1, e0, e1, e4, e6, e7, e8, vlen, vsize, a1, b0, c2, w1, w2, XOp.kind, AOp.kind, zU.down, simprocAttr]
         exact ⟨l.length - (i + 1), by omega, i + 1, rfl, hil, by rw [hst], by rw [hst], rfl, kp⟩
     · have c1 : decide ((i : Int) < (l.length : Int)) = false := by simpa using hil
       have : i = l.length := by omega
       subst this
       rw [List.take_length] at e6 e7
       simp -implicitDefEqProofs (disch := first | exact nbf rfl | exact nbt rfl | (simp only [zN.down, reduceCtorEq] <;> omega) | omega) only [c1, e0, e8, vlen, XOp.kind, AOp.kind, zU.down, simprocAttr]
       refine ⟨_, _, rfl, ?_, ?_, ?_, kp⟩
       all_goals (simp -implicitDefEqProofs (disch := first | exact nbf rfl | exact nbt rfl | (simp only [zN.down, reduceCtorEq] <;> omega) | omega) only [e4, e6, e7, XOp.kind, AOp.kind, zU.down, simprocAttr]; done)
 · rintro _ ⟨ρ, σ', rfl, e4, e6, e7, kp⟩
   simp -implicitDefEqProofs (disch := first | exact nbf rfl | exact nbt rfl | (simp only [zN.down, reduceCtorEq] <;> omega) | omega) only [e4, e6, e7, XOp.kind, AOp.kind, zU.down, simprocAttr]
   exact kp
theorem rmay_ok (k : Nat) (ys : YlF) (σ : St) (v : V) (l : List Tk) (x : Tk) (hv : RV 5 v (l.map tkc)) (hs : ∀ x ∈ l, tchk x = 0) (hl : l.length ≤ 1000000) (hk : 1000020 ≤ k) :
  W (callY Tab.tb (k + 2) ys 50 [v, .agg (tkc x)] σ) fun r => r.1 = .sc (.int .i64 (tmay l x)) ∧ Kept noX σ r.2 := by
 rw [s_call (af := Tab.b50) rfl (Nat.le_of_ble_eq_true rfl)]
 have hch := fun σ => rcheck_ok k ys σ x
 have hnx := fun σ t => rnext_ok k ys σ v l t hv hs hl hk
 generalize callY Tab.tb (k + 1) = cy at hch hnx ⊢
 unfold tmay
 simp only [tkc] at hch ⊢
 by_cases c1 : tchk x = 0
 · have d1 : (tchk x != 0) = false := by simp [c1]
   rw [if_neg (by simp [c1])]
   simp -implicitDefEqProofs (disch := first | exact nbf rfl | exact nbt rfl | (simp only [zN.down, reduceCtorEq] <;> omega) | omega) only [Tab.b50, hch, d1, XOp.kind, AOp.kind, zU.down, simprocAttr]
   repeat first | apply w_fin | apply w_seq | apply w_block | apply w_reg | apply w_op | apply w_dop
   refine (hnx _ x.talk).mono ?_
   rintro ⟨_, σ2⟩ ⟨rfl, k2⟩
   dsimp only at k2
   have k2 : Kept noX σ σ2 := ((Kept.refl noX σ).bump.bump).trans k2
   generalize tnx l x.talk = a at *
   have last : ∀ σ3, Kept noX σ σ3 → True := fun _ _ => trivial
   by_cases c2 : tabv a x
   · rw [if_pos c2]
     unfold tabv at c2
     by_cases g1 : a.f > x.term
     · have d2 : decide (a.f > x.term) = true := by simpa using g1
       simp -implicitDefEqProofs (disch := first | exact nbf rfl | exact nbt rfl | (simp only [zN.down, reduceCtorEq] <;> omega) | omega) only [d2, XOp.kind, AOp.kind, zU.down, simprocAttr]
       exact k2.bump
     · have d2 : decide (a.f > x.term) = false := by simpa using g1
       obtain ⟨g2, g3⟩ : a.f = x.term ∧ a.e > x.ep := by rcases c2 with h | h; exact absurd h g1; exact h
       have d3 := beq_iff_eq.2 g2
       have d4 : decide (a.e > x.ep) = true := by simpa using g3
       simp -implicitDefEqProofs (disch := first | exact nbf rfl | exact nbt rfl | (simp only [zN.down, reduceCtorEq] <;> omega) | omega) only [d2, d3, d4, XOp.kind, AOp.kind, zU.down, simprocAttr]
       exact k2.bump
   · rw [if_neg c2]
     unfold tabv at c2
     have d2 : decide (a.f > x.term) = false := by simp only [decide_eq_false_iff_not]; exact fun h => c2 (.inl h)
     have tail : ∃ b1 b2, (a.f == x.term) = b1 ∧ decide (a.e > x.ep) = b2 ∧ (b1 = true → b2 = false) := by
      refine ⟨_, _, rfl, rfl, fun h => ?_⟩
      simp only [beq_iff_eq] at h
      simp only [decide_eq_false_iff_not]
      exact fun h2 => c2 (.inr ⟨h, h2⟩)
     obtain ⟨b1, b2, d3, d4, hb⟩ := tail
     by_cases c3 : x.seq = a.n
     · have d5 : (x.seq != a.n) = false := by simp [c3]
       rw [if_neg (by simp [c3])]
       cases b1 with
       | true =>
        have hb := hb rfl
        subst hb
        simp -implicitDefEqProofs (disch := first | exact nbf rfl | exact nbt rfl | (simp only [zN.down, reduceCtorEq] <;> omega) | omega) only [d2, d3, d4, d5, XOp.kind, AOp.kind, zU.down, simprocAttr]
        exact k2.bump
       | false =>
        simp -implicitDefEqProofs (disch := first | exact nbf rfl | exact nbt rfl | (simp only [zN.down, reduceCtorEq] <;> omega) | omega) only [d2, d3, d5, XOp.kind, AOp.kind, zU.down, simprocAttr]
        exact k2.bump
     · have d5 : (x.seq != a.n) = true := by simp [c3]
       rw [if_pos c3]
       cases b1 with
       | true =>
        have hb := hb rfl
        subst hb
        simp -implicitDefEqProofs (disch := first | exact nbf rfl | exact nbt rfl | (simp only [zN.down, reduceCtorEq] <;> omega) | omega) only [d2, d3, d4, d5, XOp.kind, AOp.kind, zU.down, simprocAttr]
        exact k2.bump
       | false =>
        simp -implicitDefEqProofs (disch := first | exact nbf rfl | exact nbt rfl | (simp only [zN.down, reduceCtorEq] <;> omega) | omega) only [d2, d3, d5, XOp.kind, AOp.kind, zU.down, simprocAttr]
        exact k2.bump
 · have d1 : (tchk x != 0) = true := by simp [c1]
   rw [if_pos c1]
   simp -implicitDefEqProofs (disch := first | exact nbf rfl | exact nbt rfl | (simp only [zN.down, reduceCtorEq] <;> omega) | omega) only [Tab.b50, hch, d1, XOp.kind, AOp.kind, zU.down, simprocAttr]
   exact (Kept.refl noX σ).bump.bump
theorem rframe_ok (k : Nat) (ys : YlF) (σ : St) (x : Tk) (hx : tchk x = 0) (hk : 1100000 ≤ k) :
  W (callY Tab.tb (k + 5) ys 58 [.agg (tkc x)] σ) fun r => r.1 = .str (fput (tpay x)) ∧ Kept noX σ r.2 := by
 rw [s_call (af := Tab.b58) rfl (Nat.le_of_ble_eq_true rfl)]
 have hn := fun σ n w hn hw => rnum_ok (k + 3) ys σ n w hn hw (by omega)
 have hp := fun σ p h => fr.rput_ok k ys σ p h hk
 have htx : ∀ σ (s : List UInt8), s.length ≤ 64 → W (callY Tab.tb (k + 4) ys 86 [.str s] σ) fun r => r.1 = .str (be 4 s.length ++ s) ∧ Kept noX σ r.2 := by
  intro σ s hs
  rw [s_call (af := Tab.b86) rfl (Nat.le_of_ble_eq_true rfl)]
  have hn := fun σ n w hn hw => rnum_ok (k + 2) ys σ n w hn hw (by omega)
  generalize callY Tab.tb (k + 3) = cy at hn ⊢
  have w1 : IntKind.u64.wrap (s.length : Int) = (s.length : Nat) := wrap_u64 (by omega)
  have a1 := str_add (a := be 4 s.length) (b := s) (by rw [be_len]; omega)
  simp -implicitDefEqProofs (disch := first | exact nbf rfl | exact nbt rfl | (simp only [zN.down, reduceCtorEq] <;> omega) | omega) only [Tab.b86, w1, XOp.kind, AOp.kind, zU.down, simprocAttr]
  repeat first | apply w_fin | apply w_seq | apply w_block | apply w_reg | apply w_op | apply w_dop
  refine (hn σ s.length 4 (by omega) (by decide)).mono ?_
  rintro ⟨_, σ2⟩ ⟨rfl, k2⟩
  simp -implicitDefEqProofs (disch := first | exact nbf rfl | exact nbt rfl | (simp only [zN.down, reduceCtorEq] <;> omega) | omega) only [a1, XOp.kind, AOp.kind, zU.down, simprocAttr]
  exact k2
 generalize callY Tab.tb (k + 4) = cy at hn hp htx ⊢
 have hl := tpay_len x
 obtain ⟨h1, h2⟩ := tchk_0.1 hx
 rcases x with ⟨a, b, c, d, t⟩
 unfold tbad at h1
 unfold tpay at hl ⊢
 unfold tkc
 dsimp only at h1 h2 hl ⊢
 obtain ⟨a, rfl⟩ : ∃ n : Nat, a = n := ⟨a.toNat, by omega⟩
 obtain ⟨b, rfl⟩ : ∃ n : Nat, b = n := ⟨b.toNat, by omega⟩
 obtain ⟨c, rfl⟩ : ∃ n : Nat, c = n := ⟨c.toNat, by omega⟩
 obtain ⟨d, rfl⟩ : ∃ n : Nat, d = n := ⟨d.toNat, by omega⟩
 simp only [Int.toNat_natCast] at hl ⊢
 have u1 : IntKind.u64.wrap (a : Int) = (a : Nat) := wrap_u64 (by omega)
 have u2 : IntKind.u64.wrap (b : Int) = (b : Nat) := wrap_u64 (by omega)
 have u3 : IntKind.u64.wrap (c : Int) = (c : Nat) := wrap_u64 (by omega)
 have u4 : IntKind.u64.wrap (d : Int) = (d : Nat) := wrap_u64 (by omega)
 have s1 := str_add (a := be 8 a) (b := be 8 b) (by simp [be_len])
 have s2 := str_add (a := be 8 a ++ be 8 b) (b := be 8 c) (by simp [be_len])
 have s3 := str_add (a := be 8 a ++ be 8 b ++ be 8 c) (b := be 8 d) (by simp [be_len])
 have s4 := str_add (a := be 8 a ++ be 8 b ++ be 8 c ++ be 8 d) (b := be 4 t.length ++ t) (by simp [be_len]; omega)
 simp -implicitDefEqProofs (disch := first | exact nbf rfl | exact nbt rfl | (simp only [zN.down, reduceCtorEq] <;> omega) | omega) only [Tab.b58, u1, XOp.kind, AOp.kind, zU.down, simprocAttr]
 repeat first | apply w_fin | apply w_seq | apply w_block | apply w_reg | apply w_op | apply w_dop
 refine (hn _ a 8 (by omega) (by decide)).mono ?_
 rintro ⟨_, σ1⟩ ⟨rfl, k1⟩
 dsimp only at k1
 have k1 : Kept noX σ σ1 := (Kept.refl noX σ).bump.trans k1
 simp -implicitDefEqProofs (disch := first | exact nbf rfl | exact nbt rfl | (simp only [zN.down, reduceCtorEq] <;> omega) | omega) only [u2, XOp.kind, AOp.kind, zU.down, simprocAttr]
 repeat first | apply w_fin | apply w_seq | apply w_block | apply w_reg | apply w_op | apply w_dop
 refine (hn σ1 b 8 (by omega) (by decide)).mono ?_
 rintro ⟨_, σ2⟩ ⟨rfl, k2⟩
 dsimp only at k2
 simp -implicitDefEqProofs (disch := first | exact nbf rfl | exact nbt rfl | (simp only [zN.down, reduceCtorEq] <;> omega) | omega) only [s1, u3, XOp.kind, AOp.kind, zU.down, simprocAttr]
 repeat first | apply w_fin | apply w_seq | apply w_block | apply w_reg | apply w_op | apply w_dop
 refine (hn σ2 c 8 (by omega) (by decide)).mono ?_
 rintro ⟨_, σ3⟩ ⟨rfl, k3⟩
 dsimp only at k3
 simp -implicitDefEqProofs (disch := first | exact nbf rfl | exact nbt rfl | (simp only [zN.down, reduceCtorEq] <;> omega) | omega) only [s2, u4, XOp.kind, AOp.kind, zU.down, simprocAttr]
 repeat first | apply w_fin | apply w_seq | apply w_block | apply w_reg | apply w_op | apply w_dop
 refine (hn σ3 d 8 (by omega) (by decide)).mono ?_
 rintro ⟨_, σ4⟩ ⟨rfl, k4⟩
 dsimp only at k4
 simp -implicitDefEqProofs (disch := first | exact nbf rfl | exact nbt rfl | (simp only [zN.down, reduceCtorEq] <;> omega) | omega) only [s3, XOp.kind, AOp.kind, zU.down, simprocAttr]
 repeat first | apply w_fin | apply w_seq | apply w_block | apply w_reg | apply w_op | apply w_dop
 refine (htx σ4 t h2).mono ?_
 rintro ⟨_, σ5⟩ ⟨rfl, k5⟩
 dsimp only at k5
 generalize be 4 t.length ++ t = z at *
 simp -implicitDefEqProofs (disch := first | exact nbf rfl | exact nbt rfl | (simp only [zN.down, reduceCtorEq] <;> omega) | omega) only [s4, XOp.kind, AOp.kind, zU.down, simprocAttr]
 repeat first | apply w_fin | apply w_seq | apply w_block | apply w_reg | apply w_op | apply w_dop
 refine (hp σ5 (be 8 a ++ be 8 b ++ be 8 c ++ be 8 d ++ z) (by omega)).mono ?_
 rintro ⟨_, σ6⟩ ⟨rfl, k6⟩
 simp -implicitDefEqProofs (disch := first | exact nbf rfl | exact nbt rfl | (simp only [zN.down, reduceCtorEq] <;> omega) | omega) only [XOp.kind, AOp.kind, zU.down, simprocAttr]
 exact ((((k1.trans k2).trans k3).trans k4).trans k5).trans k6
end Go.Proofs.YtehdjkikcfeiaaaGreat.jn
namespace Go.Proofs.YtehdjkikcfeiaaaGreat.jn
open Go.Ab fr dk
set_option maxRecDepth 100000
set_option maxHeartbeats 8000000
set_option linter.unusedSimpArgs false
set_option linter.unusedVariables false
theorem read_4 {M : DM} {f : Int} (h : (M.read f).2 = 4) : (M.read f).1 = [] := by
 unfold DM.read at h ⊢
 split
 · rfl
 · rename_i h1
   rw [if_neg h1] at h
   split
   · rfl
   · rename_i h2
     rw [if_neg h2] at h
     split
     · rfl
     · rename_i h3
       rw [if_neg h3] at h
       cases h
theorem ropen_ok (k : Nat) (ys : YlF) (σ : St) (d : Nat) (M : DM) (h : dk.RR σ d M) {B : Nat} (hm : M.Ok B) (hB : B ≤ 999000) (hk : 3300000 ≤ k) :
  W (callY Tab.tb (k + 7) ys 25 [.ptr d 0] σ) fun r => ∃ b, r.1 = .tup [if (jopen M).2.2 = 0 then .ptr b 0 else .sc .nilP, .sc (.int .i64 (jopen M).2.2)] ∧ ((jopen M).2.2 = 0 → JR r.2 b d (jopen M).2.1 0 ∧ σ.n ≤ b) ∧ dk.RR r.2 d (jopen M).1 ∧ Kept (· = d) σ r.2 := by
 rw [s_call (af := Tab.b25) rfl (Nat.le_of_ble_eq_true rfl)]
 have hrd := fun σ M f h B hm hB => dk.rread_ok (B := B) (k + 2) ys σ d M f h hm hB (by omega)
 have hsc := fun σ s (hs : s.length ≤ 1048576) => rscan_ok k ys σ s (by omega) (by omega)
 have hdec := fun σ p hp => jn.rread_ok (k + 3) ys σ p hp (by omega)
 have hmay := fun σ v l x hv hs hl => rmay_ok (k + 4) ys σ v l x hv hs hl (by omega)
 have hch := fun σ M f c h B hm hB hs => rchange_ok (B := B) (k + 2) ys σ d M f c h hm hB (by omega) hs
 have hsy := fun σ M f h B hm hB => rsync_ok (B := B) (k + 3) ys σ d M f h hm hB (by omega)
 generalize callY Tab.tb (k + 6) = cy at hrd hsc hdec hmay hch hsy ⊢
 have ld := h.lt
 have rd := hrd σ M 0 h B hm (by omega)
 have hrl : (M.read 0).1.length ≤ 1048576 := by
  unfold DM.read
  repeat' split
  all_goals first | (simp; done) | skip
  rename_i h1 _
  rw [see_in (by omega) (by omega)]
  exact (hm.f _ (by omega)).1.seen
 have hMc := fun n => hm.change (f := 0) (c := ⟨2, [], n⟩) (.inr (.inl rfl))
 have hr4 := read_4 (M := M) (f := 0)
 unfold jopen
 generalize M.read 0 = rr at *
 simp -implicitDefEqProofs (disch := first | exact nbf rfl | exact nbt rfl | (simp only [zN.down, reduceCtorEq] <;> omega) | omega) only [Tab.b25, XOp.kind, AOp.kind, zU.down, simprocAttr]
 repeat first | apply w_fin | apply w_seq | apply w_block | apply w_reg | apply w_op | apply w_dop
 refine rd.mono ?_
 rintro ⟨_, σ1⟩ ⟨rfl, k1⟩
 dsimp only at k1
 have hd1 := h.kept k1 (fun h => h)
 generalize hs1 : rr.1 = s at *
 obtain ⟨E, hE⟩ : ∃ E : DM × List Tk × Int, E = (if flen (jl s) < s.length then (if (M.change 0 ⟨2, [], flen (jl s)⟩).2 ≠ 0 then ((M.change 0 ⟨2, [], flen (jl s)⟩).1, [], (M.change 0 ⟨2, [], flen (jl s)⟩).2) else (((M.change 0 ⟨2, [], flen (jl s)⟩).1.sync 0).1, (jl s).map tkp, ((M.change 0 ⟨2, [], flen (jl s)⟩).1.sync 0).2)) else (M, (jl s).map tkp, 0)) := ⟨_, rfl⟩
 rw [← hE]
 by_cases rz : rr.2 ≠ 0 ∧ rr.2 ≠ 4
 · have d0 : (rr.2 != 0) = true := by simp [rz.1]
   have d4 : (rr.2 != 4) = true := by simp [rz.2]
   rw [if_neg rz.2, if_pos rz.1]
   simp -implicitDefEqProofs (disch := first | exact nbf rfl | exact nbt rfl | (simp only [zN.down, reduceCtorEq] <;> omega) | omega) only [d0, d4, XOp.kind, AOp.kind, zU.down, simprocAttr]
   exact ⟨0, by rw [if_neg rz.1], fun h => absurd h rz.1, hd1, k1.any⟩
 have hEE : (if rr.2 = 4 then (M, [], (0 : Int)) else if rr.2 ≠ 0 then (M, [], rr.2) else E) = E := by
  by_cases r4 : rr.2 = 4
  · have := hr4 r4
    subst this
    rw [if_pos r4, hE]
    rfl
  · have r0 : rr.2 = 0 := by
     by_cases r0 : rr.2 = 0
     · exact r0
     · exact absurd ⟨r0, r4⟩ rz
    rw [if_neg r4, if_neg (by simp [r0])]
 rw [hEE]
 clear hEE hr4
 have cond0 : ∃ b1, (rr.2 != 0) = b1 ∧ (b1 = true → (rr.2 != 4) = false) := by
  refine ⟨_, rfl, fun h => ?_⟩
  simp only [bne_iff_ne, ne_eq] at h
  by_cases r4 : rr.2 = 4
  · simp [r4]
  · exact absurd ⟨h, r4⟩ rz
 obtain ⟨b1, hb1, hb2⟩ := cond0
 simp -implicitDefEqProofs (disch := first | exact nbf rfl | exact nbt rfl | (simp only [zN.down, reduceCtorEq] <;> omega) | omega) only [hb1, XOp.kind, AOp.kind, zU.down, simprocAttr]
 refine w_seq ?_
 refine W.mono (Q := fun q => ∃ (ρ : Env), q = ((.normal : Ex), ρ, σ1) ∧ ρ 0 = .ptr d 0 ∧ ρ 4 = .str s) ?_ ?_
 · cases b1 with
   | true =>
    have hb3 := hb2 rfl
    simp -implicitDefEqProofs (disch := first | exact nbf rfl | exact nbt rfl | (simp only [zN.down, reduceCtorEq] <;> omega) | omega) only [hb1, hb3, XOp.kind, AOp.kind, zU.down, simprocAttr]
    refine ⟨_, rfl, ?_, ?_⟩
    all_goals (simp -implicitDefEqProofs (disch := first | exact nbf rfl | exact nbt rfl | (simp only [zN.down, reduceCtorEq] <;> omega) | omega) only [XOp.kind, AOp.kind, zU.down, simprocAttr]; done)
   | false =>
    simp -implicitDefEqProofs (disch := first | exact nbf rfl | exact nbt rfl | (simp only [zN.down, reduceCtorEq] <;> omega) | omega) only [hb1, XOp.kind, AOp.kind, zU.down, simprocAttr]
    refine ⟨_, rfl, ?_, ?_⟩
    all_goals (simp -implicitDefEqProofs (disch := first | exact nbf rfl | exact nbt rfl | (simp only [zN.down, reduceCtorEq] <;> omega) | omega) only [XOp.kind, AOp.kind, zU.down, simprocAttr]; done)
 rintro _ ⟨ρ, rfl, e0, e4⟩
 simp -implicitDefEqProofs (disch := first | exact nbf rfl | exact nbt rfl | (simp only [zN.down, reduceCtorEq] <;> omega) | omega) only [e0, e4, XOp.kind, AOp.kind, zU.down, simprocAttr]
 repeat first | apply w_fin | apply w_seq | apply w_block | apply w_reg | apply w_op | apply w_dop
 have gj2 : (σ1.push (.cells [.ptr d 0, .sc .nilS, .sc (.int .i64 0)])).get σ1.n = some (.cells [.ptr d 0, .sc .nilS, .sc (.int .i64 0)]) := get_push_self
 have k2 : Kept noX σ1 (σ1.push (.cells [.ptr d 0, .sc .nilS, .sc (.int .i64 0)])) := (Kept.refl _ _).push _
 generalize σ1.push (.cells [.ptr d 0, .sc .nilS, .sc (.int .i64 0)]) = σ2 at *
 have hjn : σ.n ≤ σ1.n := k1.n
 generalize σ1.n = jx at *
 refine (hsc σ2 s hrl).mono ?_
 rintro ⟨_, σ3⟩ ⟨v, rfl, how, k3⟩
 dsimp only at how k3
 have gj3 := k3.get _ _ (fun h => h) gj2
 have lj3 := St.get_lt gj3
 have hd3 := (hd1.kept k2 (fun h => h)).kept k3 (fun h => h)
 have ldj : d ≠ jx := by omega
 have hrv := how.rv
 have vlen := hrv.len
 have vsize := hrv.size
 rw [List.length_map] at vlen
 have hsl := flen_scan _ s (Nat.le_refl _)
 have hln := len_flen12 (scan s)
 have k03 : Kept noX σ σ3 := (k1.trans k2).trans k3
 clear how
 simp -implicitDefEqProofs (disch := first | exact nbf rfl | exact nbt rfl | (simp only [zN.down, reduceCtorEq] <;> omega) | omega) only [e0, e4, XOp.kind, AOp.kind, zU.down, simprocAttr]
 repeat first | apply w_fin | apply w_seq | apply w_block | apply w_reg | apply w_op | apply w_dop
 refine W.mono (Q := fun r => ∃ (ρ' : Env) (σ4 : St) (i : Nat) (w : V), r = ((.exit 0 : Ex), ρ', σ4) ∧ i ≤ (scan s).length ∧ jl s = (scan s).take i ∧ σ4.get jx = some (.cells [.ptr d 0, w, .sc (.int .i64 0)]) ∧ RV 5 w ((((scan s).take i).map tkp).map tkc) ∧ Kept (· = jx) σ3 σ4 ∧ ρ' 0 = .ptr d 0 ∧ ρ' 4 = .str s ∧ ρ' 6 = .ptr jx 0 ∧ ρ' 9 = .sc (.int .i64 (flen ((scan s).take i) : Nat))) ?_ ?_
 · refine w_loop (fun m ρ' σ4 => ∃ (i : Nat) (w : V), m = (scan s).length - i ∧ i ≤ (scan s).length ∧ (∀ n (h : n < (scan s).length), n < i → jgood (((scan s).take n).map tkp) (scan s)[n]) ∧ σ4.get jx = some (.cells [.ptr d 0, w, .sc (.int .i64 0)]) ∧ Ow σ3.n σ4 5 w ((((scan s).take i).map tkp).map tkc) ∧ Kept (· = jx) σ3 σ4 ∧ ρ' 0 = .ptr d 0 ∧ ρ' 4 = .str s ∧ ρ' 6 = .ptr jx 0 ∧ ρ' 7 = v ∧ ρ' 9 = .sc (.int .i64 (flen ((scan s).take i) : Nat)) ∧ ρ' 10 = .sc (.int .i64 i)) (scan s).length (by omega) ?_ ?_
   · refine ⟨0, .sc .nilS, rfl, Nat.zero_le _, fun n _ h => absurd h (by omega), gj3, .nil, Kept.refl _ _, ?_, ?_, ?_, ?_, ?_, ?_⟩
     all_goals first | rfl | (simp -implicitDefEqProofs (disch := first | exact nbf rfl | exact nbt rfl | (simp only [zN.down, reduceCtorEq] <;> omega) | omega) only [e0, e4, XOp.kind, AOp.kind, zU.down, simprocAttr]; done) | (simp -implicitDefEqProofs (disch := first | exact nbf rfl | exact nbt rfl | (simp only [zN.down, reduceCtorEq] <;> omega) | omega) only [XOp.kind, AOp.kind, zU.down, simprocAttr]; rfl)
   · clear e0 e4
     rintro m ρ' σ4 ⟨i, w, hm, hi, hok, gj, how, kp, e0, e4, e6, e7, e9, e10⟩
     by_cases hil : i < (scan s).length
     · have c1 : decide ((i : Int) < ((scan s).length : Int)) = true := by simpa using hil
       obtain ⟨a1, _, _⟩ := hrv.at (i := i) (by simpa using hil)
       have a4 := hrv.cellAt (i := i) (j := 0) (by simpa using hil) (by omega)
       simp only [List.getElem_map, Nat.add_zero, sc1, List.getElem?_cons_zero, Nat.mul_one] at a4
       rw [Nat.mul_one] at a1
       have hfl2 := flen_take_le (scan s) (i + 1)
       have hft := flen_take_succ hil
       have htk : (scan s).take i ++ [(scan s)[i]] = (scan s).take (i + 1) := by rw [List.take_add_one, List.getElem?_eq_getElem hil]; rfl
       have hcl : ((scan s).take i).length = i := by rw [List.length_take]; omega
       have hoki : jgood (((scan s).take i).map tkp) (scan s)[i] → ∀ n (h : n < (scan s).length), n < i + 1 → jgood (((scan s).take n).map tkp) (scan s)[n] := fun hg n h hn => by
        by_cases e : n = i
        · subst e; exact hg
        · exact hok n h (by omega)
       have hstop : ¬ jgood (((scan s).take i).map tkp) (scan s)[i] → jl s = (scan s).take i := fun hg => jl_eq hi hok (.inr ⟨hil, hg⟩)
       have hchk : ∀ x ∈ ((scan s).take i).map tkp, tchk x = 0 := by
        intro x hx
        obtain ⟨n, hn, rfl⟩ := List.getElem_of_mem hx
        rw [List.length_map, List.length_take] at hn
        have := (hok n (by omega) (by omega)).1
        rw [List.getElem_map, List.getElem_take]
        exact (of_decide_eq_true this).2.2
       generalize (scan s)[i] = p at *
       simp -implicitDefEqProofs (disch := first | exact nbf rfl | exact nbt rfl | (simp only [zN.down, reduceCtorEq] <;> omega) | omega) only [c1, e0, e4, e6, e7, e9, e10, vlen, vsize, a1, a4, XOp.kind, AOp.kind, zU.down, simprocAttr]
       repeat first | apply w_fin | apply w_seq | apply w_block | apply w_reg | apply w_op | apply w_dop
       refine (hdec σ4 p (by omega)).mono ?_
       rintro ⟨_, τ1⟩ ⟨x, rfl, hx, kd⟩
       dsimp only at kd
       have gj1 := kd.get _ _ (fun h => h) gj
       have how1 := how.kept0 kd
       have kp1 := kp.trans kd.any
       cases hk : tok p with
       | false =>
        simp -implicitDefEqProofs (disch := first | exact nbf rfl | exact nbt rfl | (simp only [zN.down, reduceCtorEq] <;> omega) | omega) only [hk, tkc, XOp.kind, AOp.kind, zU.down, simprocAttr]
        refine ⟨_, _, i, w, rfl, hi, hstop (fun h => by have h1 := h.1; rw [hk] at h1; cases h1), by rw [St.get_bump]; exact gj1, how.rv, kp1.bump, ?_, ?_, ?_, ?_⟩
        all_goals (simp -implicitDefEqProofs (disch := first | exact nbf rfl | exact nbt rfl | (simp only [zN.down, reduceCtorEq] <;> omega) | omega) only [e0, e4, e6, e9, XOp.kind, AOp.kind, zU.down, simprocAttr]; done)
       | true =>
        obtain rfl := hx hk
        have hwc := how1.rv.cell
        have hm1 := hmay τ1.bump w _ (tkp p) how1.rv hchk (by rw [List.length_map]; omega)
        generalize hX : tkp p = X at *
        simp only [tkc] at hm1
        simp -implicitDefEqProofs (disch := first | exact nbf rfl | exact nbt rfl | (simp only [zN.down, reduceCtorEq] <;> omega) | omega) only [hk, tkc, e6, gj1, hwc.1, hwc.2, XOp.kind, AOp.kind, zU.down, simprocAttr]
        repeat first | apply w_fin | apply w_seq | apply w_block | apply w_reg | apply w_op | apply w_dop
        refine hm1.mono ?_
        rintro ⟨_, τ2⟩ ⟨rfl, k4⟩
        dsimp only at k4
        have k4 : Kept noX τ1 τ2 := (Kept.refl noX τ1).bump.trans k4
        have gj4 := k4.get _ _ (fun h => h) gj1
        have how2 := how1.kept0 k4
        have kp2 := kp1.trans k4.any
        by_cases m0 : tmay (((scan s).take i).map tkp) X = 0
        · have d1 : (tmay (((scan s).take i).map tkp) X != 0) = false := by rw [m0]; rfl
          have xrv := tkc_rv X
          simp only [tkc] at xrv
          have n2 := kp2.n
          simp -implicitDefEqProofs (disch := first | exact nbf rfl | exact nbt rfl | (simp only [zN.down, reduceCtorEq] <;> omega) | omega) only [d1, e6, gj4, bsl1t, hwc.1, hwc.2, XOp.kind, AOp.kind, zU.down, simprocAttr]
          repeat first | apply w_fin | apply w_seq | apply w_block | apply w_reg | apply w_op | apply w_dop
          refine (grow_ok how2 xrv n2 (by unfold roomB; simp; omega) (by unfold roomB; simp; omega)).mono ?_
          rintro ⟨w', τ3⟩ ⟨how3, k5⟩
          dsimp only at how3 k5
          have gj5 := k5.cells gj4
          have lj5 := St.get_lt gj5
          have hw' := how3.rv.cell
          have hmap : ((((scan s).take i).map tkp).map tkc) ++ [X].map tkc = (((scan s).take (i + 1)).map tkp).map tkc := by
           rw [← htk, List.map_append, List.map_append, ← hX]; rfl
          have u1 : IntKind.i64.wrap ((flen ((scan s).take i) : Int) + 12) = (flen ((scan s).take i) : Int) + 12 := wrap64 (by omega) (by omega)
          have u2 : IntKind.i64.wrap ((flen ((scan s).take i) : Int) + 12 + (p.length : Int)) = ((flen ((scan s).take (i + 1)) : Nat) : Int) := by rw [wrap64 (by omega) (by omega), hft]; omega
          have u3 : IntKind.i64.wrap ((i : Int) + 1) = ((i + 1 : Nat) : Int) := wrap64 (by omega) (by omega)
          simp -implicitDefEqProofs (disch := first | exact nbf rfl | exact nbt rfl | (simp only [zN.down, reduceCtorEq] <;> omega) | omega) only [e0, e4, e6, e7, e9, e10, gj5, hw'.1, hw'.2, vsize, a1, a4, u1, u2, u3, XOp.kind, AOp.kind, zU.down, simprocAttr]
          refine ⟨(scan s).length - (i + 1), by omega, i + 1, w', rfl, hil, hoki ⟨hk, by rw [hX]; exact m0⟩, ?_, ?_, (k5.keptX kp2 (Nat.le_refl _)).put (.inl rfl) lj5 _, rfl, rfl⟩
          · rfl
          · rw [← hmap]
            exact how3.kept (X := (· = jx)) (Kept.put (X := (· = jx)) (Kept.refl _ _) (.inl rfl) lj5 _) (by rintro _ rfl; rw [gj5]; simp)
        · have d1 : (tmay (((scan s).take i).map tkp) X != 0) = true := by rw [bne_iff_ne]; exact m0
          simp -implicitDefEqProofs (disch := first | exact nbf rfl | exact nbt rfl | (simp only [zN.down, reduceCtorEq] <;> omega) | omega) only [d1, XOp.kind, AOp.kind, zU.down, simprocAttr]
          refine ⟨_, _, i, w, rfl, hi, hstop (fun h => by rw [← hX] at m0; exact m0 h.2), gj4, how.rv, kp2, ?_, ?_, ?_, ?_⟩
          all_goals (simp -implicitDefEqProofs (disch := first | exact nbf rfl | exact nbt rfl | (simp only [zN.down, reduceCtorEq] <;> omega) | omega) only [e0, e4, e6, e9, XOp.kind, AOp.kind, zU.down, simprocAttr]; done)
     · have c1 : decide ((i : Int) < ((scan s).length : Int)) = false := by simpa using hil
       have hie : i = (scan s).length := by omega
       simp -implicitDefEqProofs (disch := first | exact nbf rfl | exact nbt rfl | (simp only [zN.down, reduceCtorEq] <;> omega) | omega) only [c1, e7, e10, vlen, XOp.kind, AOp.kind, zU.down, simprocAttr]
       refine ⟨_, _, i, w, rfl, hi, jl_eq hi hok (.inl hie), gj, how.rv, kp, ?_, ?_, ?_, ?_⟩
       all_goals (simp -implicitDefEqProofs (disch := first | exact nbf rfl | exact nbt rfl | (simp only [zN.down, reduceCtorEq] <;> omega) | omega) only [e0, e4, e6, e9, XOp.kind, AOp.kind, zU.down, simprocAttr]; done)
 · clear e0 e4
   rintro _ ⟨ρ', σ4, i, w, rfl, hi, hjl, gj, hw, k4, e0, e4, e6, e9⟩
   have hfl2 := flen_take_le (scan s) i
   rw [← hjl] at e9 hfl2 hw
   have hd4 := hd3.kept k4 ldj
   have k04 : Kept (· = d) σ σ4 := ⟨Nat.le_trans k03.n k4.n, fun o z _ ho => k4.get o z (by have := St.get_lt ho; omega) (k03.get o z (fun h => h) ho)⟩
   have hM1 := hMc (flen (jl s) : Nat)
   have hc1 := hch σ4 M 0 ⟨2, [], (flen (jl s) : Nat)⟩ hd4 B hm (by omega) (by simp)
   unfold chc at hc1
   generalize jl s = lv at *
   generalize M.change 0 ⟨2, [], (flen lv : Nat)⟩ = ch at *
   by_cases hlt : flen lv < s.length
   · have d1 : decide ((flen lv : Int) < (s.length : Int)) = true := by simpa using hlt
     rw [if_pos hlt] at hE
     simp -implicitDefEqProofs (disch := first | exact nbf rfl | exact nbt rfl | (simp only [zN.down, reduceCtorEq] <;> omega) | omega) only [d1, e0, e4, e6, e9, XOp.kind, AOp.kind, zU.down, simprocAttr]
     repeat first | apply w_fin | apply w_seq | apply w_block | apply w_reg | apply w_op | apply w_dop
     refine hc1.mono ?_
     rintro ⟨_, σ5⟩ ⟨rfl, hd5, k5⟩
     dsimp only at hd5 k5
     by_cases c2 : ch.2 = 0
     · have d2 : (ch.2 == 0) = true := by simp [c2]
       rw [if_neg (by simp [c2])] at hE
       simp -implicitDefEqProofs (disch := first | exact nbf rfl | exact nbt rfl | (simp only [zN.down, reduceCtorEq] <;> omega) | omega) only [d2, e0, XOp.kind, AOp.kind, zU.down, simprocAttr]
       repeat first | apply w_fin | apply w_seq | apply w_block | apply w_reg | apply w_op | apply w_dop
       refine (hsy σ5 ch.1 0 hd5 _ hM1 (by omega)).mono ?_
       rintro ⟨_, σ6⟩ ⟨rfl, hd6, k6⟩
       dsimp only at hd6 k6
       generalize ch.1.sync 0 = sy at *
       have kk := (k04.trans k5).trans k6
       by_cases c3 : sy.2 = 0
       · have d3 : (sy.2 != 0) = false := by simp [c3]
         have gj6 := k6.get _ _ (fun h => ldj h.symm) (k5.get _ _ (fun h => ldj h.symm) gj)
         simp -implicitDefEqProofs (disch := first | exact nbf rfl | exact nbt rfl | (simp only [zN.down, reduceCtorEq] <;> omega) | omega) only [d3, e6, XOp.kind, AOp.kind, zU.down, simprocAttr]
         rw [hE]
         refine ⟨jx, by rw [if_pos c3, c3], fun _ => ⟨⟨w, gj6, hw⟩, hjn⟩, hd6, kk⟩
       · have d3 : (sy.2 != 0) = true := by simp [c3]
         simp -implicitDefEqProofs (disch := first | exact nbf rfl | exact nbt rfl | (simp only [zN.down, reduceCtorEq] <;> omega) | omega) only [d3, XOp.kind, AOp.kind, zU.down, simprocAttr]
         rw [hE]
         exact ⟨0, by rw [if_neg c3], fun h => absurd h c3, hd6, kk⟩
     · have d2 : (ch.2 == 0) = false := by simp [c2]
       have d3 : (ch.2 != 0) = true := by simp [c2]
       rw [if_pos c2] at hE
       simp -implicitDefEqProofs (disch := first | exact nbf rfl | exact nbt rfl | (simp only [zN.down, reduceCtorEq] <;> omega) | omega) only [d2, d3, XOp.kind, AOp.kind, zU.down, simprocAttr]
       rw [hE]
       exact ⟨0, by rw [if_neg c2], fun h => absurd h c2, hd5, k04.trans k5⟩
   · have d1 : decide ((flen lv : Int) < (s.length : Int)) = false := by simpa using hlt
     rw [if_neg hlt] at hE
     simp -implicitDefEqProofs (disch := first | exact nbf rfl | exact nbt rfl | (simp only [zN.down, reduceCtorEq] <;> omega) | omega) only [d1, e4, e6, e9, XOp.kind, AOp.kind, zU.down, simprocAttr]
     rw [hE]
     exact ⟨jx, rfl, fun _ => ⟨⟨w, gj, hw⟩, hjn⟩, hd4, k04⟩
theorem radd_ok (k : Nat) (ys : YlF) (σ : St) (b d : Nat) (l : List Tk) (br : Int) (M : DM) (x : Tk) (h : JR σ b d l br) (hd : dk.RR σ d M) (hbd : b ≠ d) {B : Nat} (hm : M.Ok B) (hB : B ≤ 999990) (hs : ∀ x ∈ l, tchk x = 0) (hl : l.length ≤ 900000) (hk : 2200000 ≤ k) :
  W (callY Tab.tb (k + 7) ys 33 [.ptr b 0, .agg (tkc x)] σ) fun r => r.1 = .sc (.int .i64 (jadd M l br x).2.2.2) ∧ JR r.2 b d (jadd M l br x).2.1 (jadd M l br x).2.2.1 ∧ dk.RR r.2 d (jadd M l br x).1 ∧ Kept (fun o => o = d ∨ o = b) σ r.2 := by
 rw [s_call (af := Tab.b33) rfl (Nat.le_of_ble_eq_true rfl)]
 have hmay := fun σ v l hv hs hl => rmay_ok (k + 4) ys σ v l x hv hs hl (by omega)
 have hen := fun σ h => rframe_ok (k + 1) ys σ x h (by omega)
 have hch := fun σ M f c h B hm hB hs => rchange_ok (B := B) (k + 2) ys σ d M f c h hm hB (by omega) hs
 have hsy := fun σ M f h B hm hB => rsync_ok (B := B) (k + 3) ys σ d M f h hm hB (by omega)
 generalize callY Tab.tb (k + 6) = cy at hmay hen hch hsy ⊢
 have hj := h
 obtain ⟨v, g, hv⟩ := h
 have lb := St.get_lt g
 unfold jadd
 simp only [tkc] at hmay hen ⊢
 by_cases c0 : br = 0
 rotate_left
 · have d0 : (br != 0) = true := by simp [c0]
   rw [if_pos c0]
   simp -implicitDefEqProofs (disch := first | exact nbf rfl | exact nbt rfl | (simp only [zN.down, reduceCtorEq] <;> omega) | omega) only [Tab.b33, g, d0, XOp.kind, AOp.kind, zU.down, simprocAttr]
   exact ⟨hj.kept (Kept.refl noX σ).bump (fun h => h), hd.kept (Kept.refl noX σ).bump (fun h => h), (Kept.refl noX σ).bump.any⟩
 subst c0
 have d0 : ((0 : Int) != 0) = false := by decide
 rw [if_neg (by simp)]
 have hvc := hv.cell
 simp -implicitDefEqProofs (disch := first | exact nbf rfl | exact nbt rfl | (simp only [zN.down, reduceCtorEq] <;> omega) | omega) only [Tab.b33, g, d0, hvc.1, hvc.2, XOp.kind, AOp.kind, zU.down, simprocAttr]
 repeat first | apply w_fin | apply w_seq | apply w_block | apply w_reg | apply w_op | apply w_dop
 refine (hmay _ v l hv hs (by omega)).mono ?_
 rintro ⟨_, σ1⟩ ⟨rfl, k1⟩
 dsimp only at k1
 have k1 : Kept noX σ σ1 := (Kept.refl noX σ).bump.trans k1
 have g1 := k1.get _ _ (fun h => h) g
 have hd1 := hd.kept k1 (fun h => h)
 by_cases c1 : tmay l x = 0
 rotate_left
 · have d1 : (tmay l x != 0) = true := by simp [c1]
   rw [if_pos c1]
   simp -implicitDefEqProofs (disch := first | exact nbf rfl | exact nbt rfl | (simp only [zN.down, reduceCtorEq] <;> omega) | omega) only [d1, XOp.kind, AOp.kind, zU.down, simprocAttr]
   exact ⟨⟨v, g1, hv⟩, hd1, k1.any⟩
 have d1 : (tmay l x != 0) = false := by simp [c1]
 rw [if_neg (by simp [c1])]
 have hx := (tmay_0 c1).1
 simp -implicitDefEqProofs (disch := first | exact nbf rfl | exact nbt rfl | (simp only [zN.down, reduceCtorEq] <;> omega) | omega) only [d1, g1, XOp.kind, AOp.kind, zU.down, simprocAttr]
 repeat first | apply w_fin | apply w_seq | apply w_block | apply w_reg | apply w_op | apply w_dop
 refine (hen σ1 hx).mono ?_
 rintro ⟨_, σ2⟩ ⟨rfl, k2⟩
 dsimp only at k2
 have hP := hm.change (f := 0) (c := ⟨1, fput (tpay x), 0⟩) (.inl rfl)
 have hPl : ((fput (tpay x)).length : Int) ≤ 9223372036854775807 := by rw [fput_len, tpay_len]; have := (tchk_0.1 hx).2; omega
 have f1 := hch σ2 M 0 ⟨1, fput (tpay x), 0⟩ (hd1.kept k2 (fun h => h)) B hm (by omega) hPl
 unfold chc at f1
 have k12 := k1.trans k2
 have g2 := k12.get _ _ (fun h => h) g
 simp -implicitDefEqProofs (disch := first | exact nbf rfl | exact nbt rfl | (simp only [zN.down, reduceCtorEq] <;> omega) | omega) only [XOp.kind, AOp.kind, zU.down, simprocAttr]
 repeat first | apply w_fin | apply w_seq | apply w_block | apply w_reg | apply w_op | apply w_dop
 refine f1.mono ?_
 rintro ⟨_, σ3⟩ ⟨rfl, hd3, k3⟩
 dsimp only at hd3 k3
 generalize M.change 0 ⟨1, fput (tpay x), 0⟩ = q at *
 have k13 : Kept (fun o => o = d ∨ o = b) σ σ3 := k12.any.trans (k3.sub fun o h => .inl h)
 have g3 := k3.get _ _ hbd g2
 have lb3 := St.get_lt g3
 by_cases c2 : q.2 = 0
 rotate_left
 · have d2 : (q.2 == 0) = false := by simp [c2]
   have d3 : (q.2 != 0) = true := by simp [c2]
   rw [if_pos c2]
   simp -implicitDefEqProofs (disch := first | exact nbf rfl | exact nbt rfl | (simp only [zN.down, reduceCtorEq] <;> omega) | omega) only [d2, d3, g2, g3, XOp.kind, AOp.kind, zU.down, simprocAttr]
   exact ⟨⟨v, get_put_self g3, hv⟩, hd3.kept (X := (· = b)) (Kept.put (X := (· = b)) (Kept.refl _ _) (.inl rfl) lb3 _) (fun h => hbd h.symm), k13.put (.inl (.inr rfl)) lb3 _⟩
 have d2 : (q.2 == 0) = true := by simp [c2]
 rw [if_neg (by simp [c2])]
 simp -implicitDefEqProofs (disch := first | exact nbf rfl | exact nbt rfl | (simp only [zN.down, reduceCtorEq] <;> omega) | omega) only [d2, g2, g3, XOp.kind, AOp.kind, zU.down, simprocAttr]
 repeat first | apply w_fin | apply w_seq | apply w_block | apply w_reg | apply w_op | apply w_dop
 refine (hsy σ3 q.1 0 hd3 _ hP (by omega)).mono ?_
 rintro ⟨_, σ4⟩ ⟨rfl, hd4, k4⟩
 dsimp only at hd4 k4
 generalize q.1.sync 0 = z at *
 have k14 : Kept (fun o => o = d ∨ o = b) σ σ4 := k13.trans (k4.sub fun o h => .inl h)
 have g4 := k4.get _ _ hbd g3
 have lb4 := St.get_lt g4
 by_cases c3 : z.2 = 0
 rotate_left
 · have d3 : (z.2 != 0) = true := by simp [c3]
   rw [if_pos c3]
   simp -implicitDefEqProofs (disch := first | exact nbf rfl | exact nbt rfl | (simp only [zN.down, reduceCtorEq] <;> omega) | omega) only [d3, g4, XOp.kind, AOp.kind, zU.down, simprocAttr]
   exact ⟨⟨v, get_put_self g4, hv⟩, hd4.kept (X := (· = b)) (Kept.put (X := (· = b)) (Kept.refl _ _) (.inl rfl) lb4 _) (fun h => hbd h.symm), k14.put (.inl (.inr rfl)) lb4 _⟩
 have d3 : (z.2 != 0) = false := by simp [c3]
 rw [if_neg (by simp [c3])]
 simp -implicitDefEqProofs (disch := first | exact nbf rfl | exact nbt rfl | (simp only [zN.down, reduceCtorEq] <;> omega) | omega) only [d3, g4, XOp.kind, AOp.kind, zU.down, simprocAttr]
 repeat first | apply w_fin | apply w_seq | apply w_block | apply w_reg | apply w_op | apply w_dop
 refine (grow_ok (lo := σ4.n) (σ := σ4) (es := []) (ms := l.map tkc) .nil hv (Nat.le_refl _) (by unfold roomB; simp; omega) (by unfold roomB; simp; omega)).mono ?_
 rintro ⟨w, σ5⟩ ⟨h5, k5⟩
 dsimp only at h5 k5
 rw [List.nil_append] at h5
 have n5 := k5.n
 have xrv := tkc_rv x
 simp only [tkc] at xrv
 have h5c := h5.rv.cell
 simp -implicitDefEqProofs (disch := first | exact nbf rfl | exact nbt rfl | (simp only [zN.down, reduceCtorEq] <;> omega) | omega) only [bsl1t, h5c.1, h5c.2, XOp.kind, AOp.kind, zU.down, simprocAttr]
 repeat first | apply w_fin | apply w_seq | apply w_block | apply w_reg | apply w_op | apply w_dop
 refine (grow_ok h5 xrv n5 (by unfold roomB; simp; omega) (by unfold roomB; simp; omega)).mono ?_
 rintro ⟨w', σ6⟩ ⟨h6, k6⟩
 dsimp only at h6 k6
 have k46 : Kept noX σ4 σ6 := k6.kept (k5.kept (Kept.refl _ _) (Nat.le_refl _)) (Nat.le_refl _)
 have g6 := k46.get _ _ (fun h => h) g4
 have lb6 := St.get_lt g6
 have hw := h6.rv.cell
 have hrv6 : RV 5 w' ((l ++ [x]).map tkc) := by
  have := h6.rv
  rw [List.map_append]
  exact this
 simp -implicitDefEqProofs (disch := first | exact nbf rfl | exact nbt rfl | (simp only [zN.down, reduceCtorEq] <;> omega) | omega) only [g6, hw.1, hw.2, XOp.kind, AOp.kind, zU.down, simprocAttr]
 refine ⟨⟨w', get_put_self g6, hrv6⟩, (hd4.kept k46 (fun h => h)).kept (X := (· = b)) (Kept.put (X := (· = b)) (Kept.refl _ _) (.inl rfl) lb6 _) (fun h => hbd h.symm), (k14.trans k46.any).put (.inl (.inr rfl)) lb6 _⟩
end Go.Proofs.YtehdjkikcfeiaaaGreat.jn
