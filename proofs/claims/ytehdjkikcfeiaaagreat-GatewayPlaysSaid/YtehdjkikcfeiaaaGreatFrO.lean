/- Sums: the document's. The document's bytes and frames. The document's frames. -/
import Derived.Test.YtehdjkikcfeiaaaGreatFrU
namespace Go.Proofs.YtehdjkikcfeiaaaGreat.fr
open Go.Ab
set_option maxRecDepth 100000
set_option maxHeartbeats 8000000
set_option linter.unusedSimpArgs false
set_option linter.unusedVariables false
theorem step_ok (k : Nat) (ys : YlF) (σ : St) (x b : Nat) (hx : x < 4294967296) (hb : b < 4294967296) :
  callY Tab.tb (k + 1) ys 101 [.sc (.int .u32 (x : Int)), .sc (.int .u32 (b : Int))] σ = some (.sc (.int .u32 (cT x b : Nat)), σ) := by
 rw [s_call (af := Tab.b101) rfl (Nat.le_of_ble_eq_true rfl)]
 generalize callY Tab.tb k = cy
 have w1 : IntKind.u32.wrap ((x : Int) + (b : Int)) = (((x + b) % 4294967296 : Nat) : Int) := by
  have := wrap_mod32 (x + b); rw [← this]; congr 1
 have t1 : Int.tmod (((x + b) % 4294967296 : Nat) : Int) 2 = (((x + b) % 2 : Nat) : Int) := by
  have := tmod_nat (a := (x + b) % 4294967296) (b := 2)
  rw [show (x + b) % 4294967296 % 2 = (x + b) % 2 by omega] at this
  exact this
 have t2 : Int.tdiv (x : Int) 2 = ((x / 2 : Nat) : Int) := tdiv_nat (b := 2)
 have w2 : IntKind.u32.wrap ((x / 2 : Nat) : Int) = ((x / 2 : Nat) : Int) := wrap_u32 (by omega)
 rcases Nat.mod_two_eq_zero_or_one (x + b) with h | h
 · rw [h] at t1
   have t1 : _ = (0 : Int) := t1
   have hc : cT x b = x / 2 := by unfold cT; rw [if_neg (by omega)]
   rw [hc]
   simp -implicitDefEqProofs (disch := first | exact nbf rfl | exact nbt rfl | (simp only [zN.down, reduceCtorEq] <;> omega) | omega) only [Tab.b101, w1, t1, t2, w2, XOp.kind, AOp.kind, zU.down, simprocAttr]
 · rw [h] at t1
   have t1 : _ = (1 : Int) := t1
   have hc : cT x b = (x / 2) ^^^ 2197175160 := by unfold cT; rw [if_pos h]
   have x1 := u_xP (a := x / 2) (by omega)
   rw [hc]
   simp -implicitDefEqProofs (disch := first | exact nbf rfl | exact nbt rfl | (simp only [zN.down, reduceCtorEq] <;> omega) | omega) only [Tab.b101, w1, t1, t2, w2, x1, XOp.kind, AOp.kind, zU.down, simprocAttr]
theorem rmore_ok (k : Nat) (ys : YlF) (σ : St) (s : List UInt8) (hs : s.length ≤ 140737488355328) (hk : s.length + 30 ≤ k) :
  callY Tab.tb (k + 2) ys 98 [.sc (.int .u32 0), .str s] σ = some (.sc (.int .u32 (crc s : Nat)), σ) := by
 suffices h : W (callY Tab.tb (k + 2) ys 98 [.sc (.int .u32 0), .str s] σ) fun r => r = (.sc (.int .u32 (crc s : Nat)), σ) by
  obtain ⟨a, h1, h2⟩ := h
  rw [h1, h2]
 rw [s_call (af := Tab.b98) rfl (Nat.le_of_ble_eq_true rfl)]
 have hst := fun σ x b hx hb => step_ok k ys σ x b hx hb
 generalize callY Tab.tb (k + 1) = cy at hst ⊢
 have un0 : aUn .xor (.sc (.int .u32 0)) = some (.sc (.int .u32 ((4294967295 : Nat) : Int))) := un_not (a := 0) (by decide)
 simp -implicitDefEqProofs (disch := first | exact nbf rfl | exact nbt rfl | (simp only [zN.down, reduceCtorEq] <;> omega) | omega) only [Tab.b98, un0, XOp.kind, V.bool, V.i64, aBox, aLoad, aFold, chkAdd, effAdd, AOp.kind, chkAll, chkSee, zP.down, zQ.down, zR.down, zT.down, AOper.o, AOper.p, simprocAttr]
 repeat first | apply w_fin | apply w_seq | apply w_block | apply w_reg | apply w_op | apply w_dop
 refine W.mono (Q := fun r => ∃ (ρ : Env), r = ((.exit 0 : Ex), ρ, σ) ∧ ρ 5 = .sc (.int .u32 (cS 4294967295 s : Nat))) ?_ ?_
 · refine w_loop (fun m ρ σ' => ∃ i, m = s.length - i ∧ i ≤ s.length ∧ σ' = σ ∧ ρ 1 = .str s ∧ ρ 5 = .sc (.int .u32 (cS 4294967295 (s.take i) : Nat)) ∧ ρ 6 = .sc (.int .i64 i)) s.length (by omega) ?_ ?_
   · refine ⟨0, rfl, Nat.zero_le _, rfl, ?_, ?_, ?_⟩
     all_goals first | rfl | (simp -implicitDefEqProofs (disch := first | exact nbf rfl | exact nbt rfl | (simp only [zN.down, reduceCtorEq] <;> omega) | omega) only [XOp.kind, AOp.kind, zU.down, simprocAttr]; done) | (simp -implicitDefEqProofs (disch := first | exact nbf rfl | exact nbt rfl | (simp only [zN.down, reduceCtorEq] <;> omega) | omega) only [XOp.kind, AOp.kind, zU.down, simprocAttr]; rfl)
   · rintro m ρ σ' ⟨i, hm, hi, rfl, e1, e5, e6⟩
     by_cases hl : i < s.length
     · have c1 : decide ((i : Int) < (s.length : Int)) = true := by simpa using hl
       have hsn := cS_snoc 4294967295 (s.take i) s[i]
       have htk : s.take i ++ [s[i]] = s.take (i + 1) := by rw [List.take_add_one, List.getElem?_eq_getElem hl]; rfl
       rw [htk, ← cTs_8] at hsn
       have hx : cS 4294967295 (s.take i) < 4294967296 := cS_lt _ (by decide)
       have at1 := str_at hl
       generalize cS 4294967295 (s.take i) = x at *
       generalize s[i] = b at *
       have hb := b.toNat_lt
       have q1 : IntKind.u32.wrap (b.toNat : Int) = b.toNat := wrap_u32 (by omega)
       have w2 : IntKind.i64.wrap ((i : Int) + 1) = ((i + 1 : Nat) : Int) := wrap64 (by omega) (by omega)
       simp -implicitDefEqProofs (disch := first | exact nbf rfl | exact nbt rfl | (simp only [zN.down, reduceCtorEq] <;> omega) | omega) only [c1, e1, e5, e6, at1, q1, XOp.kind, AOp.kind, zU.down, simprocAttr]
       repeat first | apply w_fin | apply w_seq | apply w_block | apply w_reg | apply w_op | apply w_dop
       refine W.mono (Q := fun r => ∃ (ρ' : Env), r = ((.exit 2 : Ex), ρ', σ') ∧ ρ' 1 = .str s ∧ ρ' 5 = .sc (.int .u32 (cTs 8 x b.toNat : Nat)) ∧ ρ' 6 = .sc (.int .i64 i)) ?_ ?_
       · refine w_loop (fun m ρ' σ2 => ∃ j, m = 8 - j ∧ j ≤ 8 ∧ σ2 = σ' ∧ ρ' 1 = .str s ∧ ρ' 5 = .sc (.int .u32 (cTs j x b.toNat : Nat)) ∧ ρ' 6 = .sc (.int .i64 i) ∧ ρ' 7 = .sc (.int .u32 ((b.toNat / 2 ^ j : Nat) : Int)) ∧ ρ' 8 = .sc (.int .i64 j)) 8 (by omega) ?_ ?_
         · refine ⟨0, rfl, by omega, rfl, ?_, ?_, ?_, ?_, ?_⟩
           all_goals first | rfl | (simp -implicitDefEqProofs (disch := first | exact nbf rfl | exact nbt rfl | (simp only [zN.down, reduceCtorEq] <;> omega) | omega) only [e1, e5, e6, cTs, Nat.pow_zero, Nat.div_one, XOp.kind, AOp.kind, zU.down, simprocAttr]; done)
         · rintro m ρ' σ2 ⟨j, hm, hj, rfl, f1, f5, f6, f7, f8⟩
           by_cases hl2 : j < 8
           · have d1 : decide ((j : Int) < 8) = true := by simp; omega
             have v1 : IntKind.i64.wrap ((j : Int) + 1) = ((j + 1 : Nat) : Int) := wrap64 (by omega) (by omega)
             have hm2 := cTs_more j x b.toNat
             have hxj := cTs_lt j x b.toNat hx
             have hp : b.toNat / 2 ^ j ≤ b.toNat := Nat.div_le_self _ _
             have hp2 : b.toNat / 2 ^ j / 2 = b.toNat / 2 ^ (j + 1) := by rw [Nat.div_div_eq_div_mul, Nat.pow_succ]
             generalize hz1 : b.toNat / 2 ^ (j + 1) = z1 at *
             generalize b.toNat / 2 ^ j = z at *
             have t1 : Int.tmod (z : Int) 2 = ((z % 2 : Nat) : Int) := tmod_nat (b := 2)
             have t2 : Int.tdiv (z : Int) 2 = ((z / 2 : Nat) : Int) := tdiv_nat (b := 2)
             rw [hp2] at t2
             have w3 : IntKind.u32.wrap (z1 : Int) = (z1 : Int) := wrap_u32 (by omega)
             have hs1 := fun σ => hst σ (cTs j x b.toNat) (z % 2) hxj (by omega)
             rw [← hm2] at hs1
             simp -implicitDefEqProofs (disch := first | exact nbf rfl | exact nbt rfl | (simp only [zN.down, reduceCtorEq] <;> omega) | omega) only [d1, f1, f5, f6, f7, f8, t1, t2, w3, v1, hs1, XOp.kind, AOp.kind, zU.down, simprocAttr]
             exact ⟨8 - (j + 1), by omega, j + 1, rfl, by omega, rfl, by rw [hz1], rfl⟩
           · have d1 : decide ((j : Int) < 8) = false := by simp; omega
             have : j = 8 := by omega
             subst this
             simp -implicitDefEqProofs (disch := first | exact nbf rfl | exact nbt rfl | (simp only [zN.down, reduceCtorEq] <;> omega) | omega) only [d1, f8, XOp.kind, AOp.kind, zU.down, simprocAttr]
             refine ⟨_, rfl, ?_, ?_, ?_⟩
             all_goals (simp -implicitDefEqProofs (disch := first | exact nbf rfl | exact nbt rfl | (simp only [zN.down, reduceCtorEq] <;> omega) | omega) only [f1, f5, f6, XOp.kind, AOp.kind, zU.down, simprocAttr]; done)
       · rintro _ ⟨ρ', rfl, f1, f5, f6⟩
         rw [← hsn] at f5
         simp -implicitDefEqProofs (disch := first | exact nbf rfl | exact nbt rfl | (simp only [zN.down, reduceCtorEq] <;> omega) | omega) only [f1, f5, f6, w2, XOp.kind, AOp.kind, zU.down, simprocAttr]
         exact ⟨s.length - (i + 1), by omega, i + 1, rfl, by omega, rfl, rfl⟩
     · have c1 : decide ((i : Int) < (s.length : Int)) = false := by simpa using hl
       have : i = s.length := by omega
       subst this
       rw [List.take_length] at e5
       simp -implicitDefEqProofs (disch := first | exact nbf rfl | exact nbt rfl | (simp only [zN.down, reduceCtorEq] <;> omega) | omega) only [c1, e1, e6, XOp.kind, AOp.kind, zU.down, simprocAttr]
       exact ⟨_, rfl, by simp -implicitDefEqProofs (disch := first | exact nbf rfl | exact nbt rfl | (simp only [zN.down, reduceCtorEq] <;> omega) | omega) only [e5, XOp.kind, AOp.kind, zU.down, simprocAttr]⟩
 · rintro _ ⟨ρ, rfl, e5⟩
   have hx : cS 4294967295 s < 4294967296 := cS_lt _ (by decide)
   have un1 := un_not hx
   simp -implicitDefEqProofs (disch := first | exact nbf rfl | exact nbt rfl | (simp only [zN.down, reduceCtorEq] <;> omega) | omega) only [e5, un1, crc, XOp.kind, V.bool, V.i64, aBox, aLoad, aFold, chkAdd, effAdd, AOp.kind, chkAll, chkSee, zP.down, zQ.down, zR.down, zT.down, AOper.o, AOper.p, simprocAttr]
theorem rof_ok (k : Nat) (ys : YlF) (σ : St) (s : List UInt8) (hs : s.length ≤ 140737488355328) (hk : s.length + 30 ≤ k) :
  callY Tab.tb (k + 3) ys 93 [.str s] σ = some (.sc (.int .u32 (crc s : Nat)), σ) := by
 rw [s_call (af := Tab.b93) rfl (Nat.le_of_ble_eq_true rfl)]
 have hm := fun σ => rmore_ok k ys σ s hs hk
 generalize callY Tab.tb (k + 2) = cy at hm ⊢
 simp -implicitDefEqProofs (disch := first | exact nbf rfl | exact nbt rfl | (simp only [zN.down, reduceCtorEq] <;> omega) | omega) only [Tab.b93, hm, XOp.kind, AOp.kind, zU.down, simprocAttr]
end Go.Proofs.YtehdjkikcfeiaaaGreat.fr
namespace Go.Proofs.YtehdjkikcfeiaaaGreat.fr
open Go.Ab
set_option maxRecDepth 100000
set_option maxHeartbeats 8000000
set_option linter.unusedSimpArgs false
set_option linter.unusedVariables false
def nb (w i n : Nat) : List V := List.replicate (w - i) (.sc (.int .u8 0)) ++ (be i n).map byteV
theorem be_snoc_front : ∀ (i n : Nat), be (i + 1) n = UInt8.ofNat (n / 256 ^ i % 256) :: be i n
 | 0, n => by simp [be]
 | i + 1, n => by
  rw [be, be_snoc_front i (n / 256), be]
  simp only [List.cons_append, Nat.div_div_eq_div_mul]
  rw [show 256 * 256 ^ i = 256 ^ (i + 1) by rw [Nat.pow_succ]; omega]
theorem nb_set {w i n : Nat} (h : i < w) : (nb w i n).set (w - 1 - i) (.sc (.int .u8 ((n / 256 ^ i % 256 : Nat) : Int))) = nb w (i + 1) n := by
 unfold nb
 rw [be_snoc_front, List.map_cons, byteV_ofNat (by omega)]
 rw [show w - i = (w - (i + 1)) + 1 by omega, List.replicate_succ', List.append_assoc]
 rw [List.set_append_right _ _ (by simp; omega)]
 congr 1
 simp only [List.length_replicate, show w - 1 - i - (w - (i + 1)) = 0 by omega, List.cons_append, List.nil_append, List.set_cons_zero]
theorem nb_len {w i n : Nat} (h : i ≤ w) : (nb w i n).length = w := by simp [nb, be_len]; omega
theorem zeros1 : ∀ w : Nat, zeros [V.sc (.int .u8 0)] w = List.replicate w (.sc (.int .u8 0))
 | 0 => rfl
 | w + 1 => by
  unfold zeros
  rw [List.replicate_succ, List.flatten_cons, List.replicate_succ]
  exact congrArg _ (zeros1 w)
theorem rnum_ok (k : Nat) (ys : YlF) (σ : St) (n w : Nat) (hn : n < 18446744073709551616) (hw : 1 ≤ w ∧ w ≤ 8) (hk : 20 ≤ k) :
  W (callY Tab.tb (k + 1) ys 85 [.sc (.int .u64 (n : Int)), .sc (.int .i64 (w : Int))] σ) fun r => r.1 = .str (be w n) ∧ Kept noX σ r.2 := by
 rw [s_call (af := Tab.b85) rfl (Nat.le_of_ble_eq_true rfl)]
 generalize callY Tab.tb k = cy
 have mk : XOp.run σ (.mkslice true 1 1 [.sc (.int .u8 0)]) [.sc (.int .i64 (w : Int)), .sc (.int .i64 (w : Int))] = some (.os σ.n 0 1 w (some w), σ.push (.cells (nb w 0 n))) := by
  have e1 : (0 : Int) ≤ w ∧ (w : Int) ≤ w ∧ (w : Int).toNat * 1 ≤ 16777216 ∧ ((1 : Nat) : Int) * w ≤ 281474976710656 ∧ (w : Int) ≤ 16777216 ∧ [V.sc (.int .u8 0)].length = 1 := by
   simp; omega
  simp only [XOp.run]
  rw [if_pos e1, if_pos trivial, Int.toNat_natCast, zeros1]
  simp [nb, be]
 have w1 : IntKind.i64.wrap ((w : Int) - 1) = ((w : Int) - 1) := wrap64 (by omega) (by omega)
 simp -implicitDefEqProofs (disch := first | exact nbf rfl | exact nbt rfl | (simp only [zN.down, reduceCtorEq] <;> omega) | omega) only [Tab.b85, mk, w1, XOp.kind, AOp.kind, zU.down, simprocAttr]
 repeat first | apply w_fin | apply w_seq | apply w_block | apply w_reg | apply w_op | apply w_dop
 have g0 : (σ.push (.cells (nb w 0 n))).get σ.n = some (.cells (nb w 0 n)) := get_push_self
 have k0 : Kept noX σ (σ.push (.cells (nb w 0 n))) := (Kept.refl _ _).push _
 generalize σ.push (.cells (nb w 0 n)) = σ1 at *
 refine W.mono (Q := fun q => ∃ (ρ : Env) (σ' : St), q = ((.exit 0 : Ex), ρ, σ') ∧ ρ 5 = .os σ.n 0 1 w (some w) ∧ σ'.get σ.n = some (.cells (nb w w n)) ∧ Kept noX σ σ') ?_ ?_
 · refine w_loop (fun m ρ σ' => ∃ i, m = w - i ∧ i ≤ w ∧ ρ 0 = .sc (.int .u64 ((n / 256 ^ i : Nat) : Int)) ∧ ρ 5 = .os σ.n 0 1 w (some w) ∧ ρ 6 = .sc (.int .i64 ((w : Int) - 1 - i)) ∧ σ'.get σ.n = some (.cells (nb w i n)) ∧ Kept noX σ σ') w (by omega) ?_ ?_
   · refine ⟨0, rfl, Nat.zero_le _, ?_, ?_, ?_, g0, k0⟩
     all_goals first | rfl | (simp -implicitDefEqProofs (disch := first | exact nbf rfl | exact nbt rfl | (simp only [zN.down, reduceCtorEq] <;> omega) | omega) only [Nat.pow_zero, Nat.div_one, XOp.kind, AOp.kind, zU.down, simprocAttr]; done) | (simp; simp -implicitDefEqProofs (disch := first | exact nbf rfl | exact nbt rfl | (simp only [zN.down, reduceCtorEq] <;> omega) | omega) only [XOp.kind, AOp.kind, zU.down, simprocAttr]; rfl) | (simp -implicitDefEqProofs (disch := first | exact nbf rfl | exact nbt rfl | (simp only [zN.down, reduceCtorEq] <;> omega) | omega) only [XOp.kind, AOp.kind, zU.down, simprocAttr]; simp)
   · rintro m ρ σ' ⟨i, hm, hi, e0, e5, e6, g, kp⟩
     by_cases hl : i < w
     · have c1 : decide ((w : Int) - 1 - i ≥ 0) = true := by simp; omega
       have hp : n / 256 ^ i ≤ n := Nat.div_le_self _ _
       have hset := nb_set (n := n) hl
       have hp2 : n / 256 ^ i / 256 = n / 256 ^ (i + 1) := by rw [Nat.div_div_eq_div_mul, Nat.pow_succ]
       have hlen := nb_len (w := w) (i := i) (n := n) hi
       generalize hz1 : n / 256 ^ (i + 1) = z1 at *
       generalize n / 256 ^ i = z at *
       have t1 : Int.tmod (z : Int) 256 = ((z % 256 : Nat) : Int) := tmod_nat (b := 256)
       have t2 : Int.tdiv (z : Int) 256 = ((z / 256 : Nat) : Int) := tdiv_nat (b := 256)
       rw [hp2] at t2
       have u1 : IntKind.u8.wrap ((z % 256 : Nat) : Int) = ((z % 256 : Nat) : Int) := wrap_u8 (by omega)
       have u2 : IntKind.u64.wrap (z1 : Int) = (z1 : Int) := wrap_u64 (by omega)
       have sz : slSize 1 (.os σ.n 0 1 w (some w)) = true := rfl
       obtain ⟨j, hj⟩ : ∃ j : Nat, (w : Int) - 1 - i = j := ⟨w - 1 - i, by omega⟩
       have hj2 : w - 1 - i = j := by omega
       rw [hj2] at hset
       have ad : aSlAddr (.os σ.n 0 1 w (some w)) (.sc (.int .i64 ((w : Int) - 1 - i))) = some (.ptr σ.n j) := by
        rw [hj]
        have : (0 : Int) ≤ j ∧ (j : Int) < w := by omega
        simp [aSlAddr, aIdx, this]
       have le : (j + 1 ≤ (nb w i n).length) = True := by simp only [eq_iff_iff, iff_true]; omega
       have w2 : IntKind.i64.wrap ((w : Int) - 1 - i - 1) = (w : Int) - 1 - ((i + 1 : Nat) : Int) := by rw [wrap64 (by omega) (by omega)]; omega
       have gl := St.get_lt g
       simp -implicitDefEqProofs (disch := first | exact nbf rfl | exact nbt rfl | (simp only [zN.down, reduceCtorEq] <;> omega) | omega) only [c1, e0, e5, e6, t1, t2, u1, u2, sz, ad, g, le, hset, w2, XOp.kind, AOp.kind, zU.down, simprocAttr]
       exact ⟨w - (i + 1), by omega, i + 1, rfl, hl, by rw [hz1], rfl, rfl, kp.put (.inr (Nat.le_refl _)) gl _⟩
     · have c1 : decide ((w : Int) - 1 - i ≥ 0) = false := by simp; omega
       have : i = w := by omega
       subst this
       simp -implicitDefEqProofs (disch := first | exact nbf rfl | exact nbt rfl | (simp only [zN.down, reduceCtorEq] <;> omega) | omega) only [c1, e6, XOp.kind, AOp.kind, zU.down, simprocAttr]
       exact ⟨_, _, rfl, by simp -implicitDefEqProofs (disch := first | exact nbf rfl | exact nbt rfl | (simp only [zN.down, reduceCtorEq] <;> omega) | omega) only [e5, XOp.kind, AOp.kind, zU.down, simprocAttr], g, kp⟩
 · rintro _ ⟨ρ, σ', rfl, e5, g, kp⟩
   have hb : aB2s σ' (.os σ.n 0 1 w (some w)) = some (.str (be w n)) := by
    have e : nb w w n = (be w n).map byteV := by simp [nb]
    rw [e] at g
    have hl := be_len w n
    simp only [aB2s, aSrc, g, Nat.mul_one, Nat.zero_add, List.drop_zero, List.length_map, hl, Nat.le_refl, and_self, if_true, Option.bind_some, true_and]
    rw [List.take_of_length_le (by simp [hl]), mapM_byte]
    rfl
   simp -implicitDefEqProofs (disch := first | exact nbf rfl | exact nbt rfl | (simp only [zN.down, reduceCtorEq] <;> omega) | omega) only [e5, hb, XOp.kind, AOp.kind, zU.down, simprocAttr]
   exact kp
end Go.Proofs.YtehdjkikcfeiaaaGreat.fr
namespace Go.Proofs.YtehdjkikcfeiaaaGreat.fr
open Go.Ab
set_option maxRecDepth 100000
set_option maxHeartbeats 8000000
set_option linter.unusedSimpArgs false
set_option linter.unusedVariables false
theorem rput_ok (k : Nat) (ys : YlF) (σ : St) (p : List UInt8) (hp : p.length ≤ 1000000) (hk : 1100000 ≤ k) :
  W (callY Tab.tb (k + 4) ys 84 [.str p] σ) fun r => r.1 = .str (fput p) ∧ Kept noX σ r.2 := by
 rw [s_call (af := Tab.b84) rfl (Nat.le_of_ble_eq_true rfl)]
 have hu := fun σ n w hn hw => rnum_ok (k + 2) ys σ n w hn hw (by omega)
 have ho := fun σ s hs hl => rof_ok k ys σ s hs hl
 generalize callY Tab.tb (k + 3) = cy at hu ho ⊢
 have w1 : IntKind.u64.wrap (p.length : Int) = (p.length : Nat) := wrap_u64 (by omega)
 simp -implicitDefEqProofs (disch := first | exact nbf rfl | exact nbt rfl | (simp only [zN.down, reduceCtorEq] <;> omega) | omega) only [Tab.b84, w1, XOp.kind, AOp.kind, zU.down, simprocAttr]
 repeat first | apply w_fin | apply w_seq | apply w_block | apply w_reg | apply w_op | apply w_dop
 refine (hu σ p.length 4 (by omega) (by omega)).mono ?_
 rintro ⟨_, σ1⟩ ⟨rfl, k1⟩
 dsimp only at k1
 have o1 := fun σ => ho σ (be 4 p.length) (by rw [be_len]; decide) (by rw [be_len]; omega)
 have c1 := crc_lt (be 4 p.length)
 have w2 : IntKind.u64.wrap (crc (be 4 p.length) : Int) = (crc (be 4 p.length) : Nat) := wrap_u64 (by omega)
 simp -implicitDefEqProofs (disch := first | exact nbf rfl | exact nbt rfl | (simp only [zN.down, reduceCtorEq] <;> omega) | omega) only [o1, w2, XOp.kind, AOp.kind, zU.down, simprocAttr]
 repeat first | apply w_fin | apply w_seq | apply w_block | apply w_reg | apply w_op | apply w_dop
 refine (hu σ1 (crc (be 4 p.length)) 4 (by omega) (by omega)).mono ?_
 rintro ⟨_, σ2⟩ ⟨rfl, k2⟩
 dsimp only at k2
 have o2 := fun σ => ho σ p (by omega) (by omega)
 have c2 := crc_lt p
 have w3 : IntKind.u64.wrap (crc p : Int) = (crc p : Nat) := wrap_u64 (by omega)
 have a1 := str_add (a := be 4 p.length) (b := be 4 (crc (be 4 p.length))) (by rw [be_len, be_len]; decide)
 have a2 := str_add (a := be 4 p.length ++ be 4 (crc (be 4 p.length))) (b := p) (by rw [List.length_append, be_len, be_len]; omega)
 simp -implicitDefEqProofs (disch := first | exact nbf rfl | exact nbt rfl | (simp only [zN.down, reduceCtorEq] <;> omega) | omega) only [o2, w3, a1, a2, XOp.kind, AOp.kind, zU.down, simprocAttr]
 repeat first | apply w_fin | apply w_seq | apply w_block | apply w_reg | apply w_op | apply w_dop
 refine (hu σ2 (crc p) 4 (by omega) (by omega)).mono ?_
 rintro ⟨_, σ3⟩ ⟨rfl, k3⟩
 dsimp only at k3
 have a3 := str_add (a := be 4 p.length ++ be 4 (crc (be 4 p.length)) ++ p) (b := be 4 (crc p)) (by rw [List.length_append, List.length_append, be_len, be_len, be_len]; omega)
 simp -implicitDefEqProofs (disch := first | exact nbf rfl | exact nbt rfl | (simp only [zN.down, reduceCtorEq] <;> omega) | omega) only [a3, fput, XOp.kind, AOp.kind, zU.down, simprocAttr]
 exact (k1.trans k2).trans k3
theorem val4 {s : List UInt8} (h : 8 ≤ s.length) : val (s.take 4) = s[0].toNat * 16777216 + s[1].toNat * 65536 + s[2].toNat * 256 + s[3].toNat := by
 rcases s with _ | ⟨a, _ | ⟨b, _ | ⟨c, _ | ⟨d, s⟩⟩⟩⟩
 · simp at h
 · simp at h
 · simp at h
 · simp at h
 · simp [val]; omega
theorem val4i {s : List UInt8} (h : 8 ≤ s.length) : (s[0].toNat : Int) * (16777216 : Int) + (s[1].toNat : Int) * (65536 : Int) + (s[2].toNat : Int) * (256 : Int) + (s[3].toNat : Int) = ((val (s.take 4) : Nat) : Int) := by
 have h4 := val4 h
 generalize s[0].toNat = a at *
 generalize s[1].toNat = b at *
 generalize s[2].toNat = c at *
 generalize s[3].toNat = d at *
 omega
theorem be4_eq {c : Nat} {x : List UInt8} (hx : x.length = 4) (hc : c < 4294967296) : be 4 c = x ↔ val x = c := by
 constructor
 · rintro rfl; exact val_be 4 c hc
 · rintro rfl; rw [← hx]; exact be_val x
theorem fput_take {s : List UInt8} {n : Nat} (h8 : 8 ≤ s.length) (hn : val (s.take 4) = n) (hc : val ((s.drop 4).take 4) = crc (s.take 4)) (hl : n + 12 ≤ s.length) : fput ((s.drop 8).take n) = s.take (n + 12) ↔ val ((s.drop (8 + n)).take 4) = crc ((s.drop 8).take n) := by
 have l1 : (s.take 4).length = 4 := by rw [List.length_take]; omega
 have l2 : ((s.drop 4).take 4).length = 4 := by rw [List.length_take, List.length_drop]; omega
 have l3 : ((s.drop 8).take n).length = n := by rw [List.length_take, List.length_drop]; omega
 have l4 : ((s.drop (8 + n)).take 4).length = 4 := by rw [List.length_take, List.length_drop]; omega
 have e1 : be 4 n = s.take 4 := (be4_eq l1 (by have := val_lt (s.take 4); rw [l1] at this; omega)).2 hn
 have e2 : be 4 (crc (s.take 4)) = (s.drop 4).take 4 := (be4_eq l2 (crc_lt _)).2 hc
 have es : s.take (n + 12) = s.take 4 ++ (s.drop 4).take 4 ++ (s.drop 8).take n ++ (s.drop (8 + n)).take 4 := by
  rw [show n + 12 = 4 + (4 + (n + 4)) by omega, List.take_add, List.take_add, List.take_add, List.drop_drop, List.drop_drop]
  simp only [List.append_assoc, Nat.reduceAdd]
 unfold fput
 rw [l3, e1, e2, es, List.append_right_inj, be4_eq l4 (crc_lt _)]
theorem rtake_ok (k : Nat) (ys : YlF) (σ : St) (s : List UInt8) (hs : s.length ≤ 140737488355328) (hk : 1100000 ≤ k) :
  W (callY Tab.tb (k + 5) ys 72 [.str s] σ) fun r => r.1 = .tup [.str (ftk s).1, .sc (.int .i64 (ftk s).2.1), .sc (.int .i64 (ftk s).2.2)] ∧ Kept noX σ r.2 := by
 rw [s_call (af := Tab.b72) rfl (Nat.le_of_ble_eq_true rfl)]
 have hu := fun σ n w hn hw => rnum_ok (k + 3) ys σ n w hn hw (by omega)
 have ho := fun σ s hs hl => rof_ok (k + 1) ys σ s hs hl
 have hp := fun σ p hp => rput_ok k ys σ p hp (by omega)
 generalize callY Tab.tb (k + 4) = cy at hu ho hp ⊢
 unfold ftk
 by_cases c1 : s.length < 8
 · have d1 : decide ((s.length : Int) < 8) = true := by simp; omega
   rw [if_pos c1]
   simp -implicitDefEqProofs (disch := first | exact nbf rfl | exact nbt rfl | (simp only [zN.down, reduceCtorEq] <;> omega) | omega) only [Tab.b72, d1, XOp.kind, AOp.kind, zU.down, simprocAttr]
   exact Kept.refl _ _
 rw [if_neg c1]
 have d1 : decide ((s.length : Int) < 8) = false := by simp; omega
 have x0 : aStrIdx (.str s) (.sc (.int .i64 0)) = some (.sc (.int .u8 s[0].toNat)) := str_at (i := 0) (by omega)
 have x1 : aStrIdx (.str s) (.sc (.int .i64 1)) = some (.sc (.int .u8 s[1].toNat)) := str_at (i := 1) (by omega)
 have x2 : aStrIdx (.str s) (.sc (.int .i64 2)) = some (.sc (.int .u8 s[2].toNat)) := str_at (i := 2) (by omega)
 have x3 : aStrIdx (.str s) (.sc (.int .i64 3)) = some (.sc (.int .u8 s[3].toNat)) := str_at (i := 3) (by omega)
 have hv := val4i (s := s) (by omega)
 have hn2 : val (s.take 4) < 4294967296 := by
  have := val_lt (s.take 4)
  rw [List.length_take, Nat.min_eq_left (by omega)] at this
  exact this
 have b0 := s[0].toNat_lt
 have b1 := s[1].toNat_lt
 have b2 := s[2].toNat_lt
 have b3 := s[3].toNat_lt
 have hft := fput_take (s := s) (by omega) rfl
 generalize s[0].toNat = y0 at *
 generalize s[1].toNat = y1 at *
 generalize s[2].toNat = y2 at *
 generalize s[3].toNat = y3 at *
 have v0 : IntKind.i64.wrap (y0 : Int) = y0 := wrap64 (by omega) (by omega)
 have v1 : IntKind.i64.wrap (y1 : Int) = y1 := wrap64 (by omega) (by omega)
 have v2 : IntKind.i64.wrap (y2 : Int) = y2 := wrap64 (by omega) (by omega)
 have v3 : IntKind.i64.wrap (y3 : Int) = y3 := wrap64 (by omega) (by omega)
 have m0 : IntKind.i64.wrap ((y0 : Int) * 16777216) = (y0 : Int) * 16777216 := wrap64 (by omega) (by omega)
 have m1 : IntKind.i64.wrap ((y1 : Int) * 65536) = (y1 : Int) * 65536 := wrap64 (by omega) (by omega)
 have m2 : IntKind.i64.wrap ((y2 : Int) * 256) = (y2 : Int) * 256 := wrap64 (by omega) (by omega)
 have s1 : IntKind.i64.wrap ((y0 : Int) * 16777216 + (y1 : Int) * 65536) = (y0 : Int) * 16777216 + (y1 : Int) * 65536 := wrap64 (by omega) (by omega)
 have s2 : IntKind.i64.wrap ((y0 : Int) * 16777216 + (y1 : Int) * 65536 + (y2 : Int) * 256) = (y0 : Int) * 16777216 + (y1 : Int) * 65536 + (y2 : Int) * 256 := wrap64 (by omega) (by omega)
 have s3 : IntKind.i64.wrap ((y0 : Int) * 16777216 + (y1 : Int) * 65536 + (y2 : Int) * 256 + (y3 : Int)) = ((val (s.take 4) : Nat) : Int) := by rw [hv]; exact wrap64 (by omega) (by omega)
 clear hv hn2
 generalize val (s.take 4) = n at *
 by_cases c2 : n > 4096
 · have d2 : decide ((n : Int) > 4096) = true := by simp; omega
   rw [if_pos (.inl c2)]
   simp -implicitDefEqProofs (disch := first | exact nbf rfl | exact nbt rfl | (simp only [zN.down, reduceCtorEq] <;> omega) | omega) only [Tab.b72, d1, x0, x1, x2, x3, v0, v1, v2, v3, m0, m1, m2, s1, s2, s3, d2, XOp.kind, AOp.kind, zU.down, simprocAttr]
   exact Kept.refl _ _
 have d2 : decide ((n : Int) > 4096) = false := by simp; omega
 have l4 : aSlice (.str s) none (some (.sc (.int .i64 4))) none = some (.str (s.take 4)) := str_lo (h := 4) (by omega)
 have l48 : aSlice (.str s) (some (.sc (.int .i64 4))) (some (.sc (.int .i64 8))) none = some (.str ((s.drop 4).take 4)) := str_sl (l := 4) (h := 8) (by omega) (by omega)
 have o1 := fun σ => ho σ (s.take 4) (by rw [List.length_take]; omega) (by rw [List.length_take]; omega)
 have cl := crc_lt (s.take 4)
 have w2 : IntKind.u64.wrap (crc (s.take 4) : Int) = (crc (s.take 4) : Nat) := wrap_u64 (by omega)
 simp -implicitDefEqProofs (disch := first | exact nbf rfl | exact nbt rfl | (simp only [zN.down, reduceCtorEq] <;> omega) | omega) only [Tab.b72, d1, x0, x1, x2, x3, v0, v1, v2, v3, m0, m1, m2, s1, s2, s3, d2, l4, l48, o1, w2, XOp.kind, AOp.kind, zU.down, simprocAttr]
 repeat first | apply w_fin | apply w_seq | apply w_block | apply w_reg | apply w_op | apply w_dop
 refine (hu σ (crc (s.take 4)) 4 (by omega) (by omega)).mono ?_
 rintro ⟨_, σ1⟩ ⟨rfl, k1⟩
 dsimp only at k1
 have heq := be4_eq (c := crc (s.take 4)) (x := (s.drop 4).take 4) (by rw [List.length_take, List.length_drop]; omega) (crc_lt _)
 by_cases c3 : val ((s.drop 4).take 4) = crc (s.take 4)
 · have d3 : (!decide (be 4 (crc (s.take 4)) = (s.drop 4).take 4)) = false := by
    rw [Bool.not_eq_false']; exact decide_eq_true (heq.2 c3)
   rw [if_neg (by omega)]
   have w4 : IntKind.i64.wrap ((n : Int) + 12) = ((n + 12 : Nat) : Int) := by rw [wrap64 (by omega) (by omega)]; omega
   have w5 : IntKind.i64.wrap (8 + (n : Int)) = ((8 + n : Nat) : Int) := by rw [wrap64 (by omega) (by omega)]; omega
   by_cases c4 : s.length < n + 12
   · have d4 : decide ((s.length : Int) < ((n + 12 : Nat) : Int)) = true := by simp only [decide_eq_true_eq]; omega
     rw [if_pos c4]
     simp -implicitDefEqProofs (disch := first | exact nbf rfl | exact nbt rfl | (simp only [zN.down, reduceCtorEq] <;> omega) | omega) only [l48, str_ne, d3, w4, d4, XOp.kind, AOp.kind, zU.down, simprocAttr]
     exact k1
   have d4 : decide ((s.length : Int) < ((n + 12 : Nat) : Int)) = false := by simp only [decide_eq_false_iff_not]; omega
   rw [if_neg c4]
   have l5 : aSlice (.str s) (some (.sc (.int .i64 8))) (some (.sc (.int .i64 ((8 + n : Nat) : Int)))) none = some (.str ((s.drop 8).take n)) := by
    have := str_sl (s := s) (l := 8) (h := 8 + n) (by omega) (by omega)
    rw [Nat.add_sub_cancel_left] at this
    exact this
   have l6 := str_lo (s := s) (h := n + 12) (by omega)
   simp -implicitDefEqProofs (disch := first | exact nbf rfl | exact nbt rfl | (simp only [zN.down, reduceCtorEq] <;> omega) | omega) only [l48, str_ne, d3, w4, w5, d4, l5, XOp.kind, AOp.kind, zU.down, simprocAttr]
   repeat first | apply w_fin | apply w_seq | apply w_block | apply w_reg | apply w_op | apply w_dop
   refine (hp σ1 ((s.drop 8).take n) (by rw [List.length_take]; omega)).mono ?_
   rintro ⟨_, σ2⟩ ⟨rfl, k2⟩
   dsimp only at k2
   have hft2 := hft c3 (by omega)
   by_cases c5 : val ((s.drop (8 + n)).take 4) = crc ((s.drop 8).take n)
   · have d5 : (!decide (fput ((s.drop 8).take n) = s.take (n + 12))) = false := by
      rw [Bool.not_eq_false']; exact decide_eq_true (hft2.2 c5)
     rw [if_neg (by omega)]
     simp -implicitDefEqProofs (disch := first | exact nbf rfl | exact nbt rfl | (simp only [zN.down, reduceCtorEq] <;> omega) | omega) only [w4, l6, str_ne, d5, XOp.kind, AOp.kind, zU.down, simprocAttr]
     exact k1.trans k2
   · have d5 : (!decide (fput ((s.drop 8).take n) = s.take (n + 12))) = true := by
      rw [Bool.not_eq_true']; exact decide_eq_false (fun h => c5 (hft2.1 h))
     rw [if_pos c5]
     simp -implicitDefEqProofs (disch := first | exact nbf rfl | exact nbt rfl | (simp only [zN.down, reduceCtorEq] <;> omega) | omega) only [w4, l6, str_ne, d5, XOp.kind, AOp.kind, zU.down, simprocAttr]
     exact k1.trans k2
 · have d3 : (!decide (be 4 (crc (s.take 4)) = (s.drop 4).take 4)) = true := by
    rw [Bool.not_eq_true']; exact decide_eq_false (fun h => c3 (heq.1 h))
   rw [if_pos (.inr c3)]
   simp -implicitDefEqProofs (disch := first | exact nbf rfl | exact nbt rfl | (simp only [zN.down, reduceCtorEq] <;> omega) | omega) only [l48, str_ne, d3, XOp.kind, AOp.kind, zU.down, simprocAttr]
   exact k1
theorem rscan_ok (k : Nat) (ys : YlF) (σ : St) (s : List UInt8) (hs : s.length ≤ 4294967296) (hk : 1100000 + s.length ≤ k) :
  W (callY Tab.tb (k + 6) ys 48 [.str s] σ) fun r => ∃ v, r.1 = .tup [v, .sc (.int .i64 (flen (scan s) : Nat))] ∧ Ow σ.n r.2 1 v ((scan s).map sc1) ∧ Kept noX σ r.2 := by
 rw [s_call (af := Tab.b48) rfl (Nat.le_of_ble_eq_true rfl)]
 have ht := fun σ s hs => rtake_ok k ys σ s hs (by omega)
 generalize callY Tab.tb (k + 5) = cy at ht ⊢
 simp -implicitDefEqProofs (disch := first | exact nbf rfl | exact nbt rfl | (simp only [zN.down, reduceCtorEq] <;> omega) | omega) only [Tab.b48, XOp.kind, AOp.kind, zU.down, simprocAttr]
 repeat first | apply w_fin | apply w_seq | apply w_block | apply w_reg | apply w_op | apply w_dop
 have hsl := flen_scan _ s (Nat.le_refl _)
 have hln := len_flen (scan s)
 refine W.mono (Q := fun q => ∃ (ρ : Env) (σ' : St) (v : V), q = ((.ret : Ex), ρ, σ') ∧ ρ 2 = v ∧ ρ 3 = .sc (.int .i64 (flen (scan s) : Nat)) ∧ Ow σ.n σ' 1 v ((scan s).map sc1) ∧ Kept noX σ σ') ?_ ?_
 · refine w_loop (fun m ρ σ' => ∃ (i : Nat) (v : V), m = (scan s).length - i ∧ i ≤ (scan s).length ∧ ρ 0 = .str s ∧ ρ 4 = v ∧ ρ 5 = .sc (.int .i64 (flen ((scan s).take i) : Nat)) ∧ Ow σ.n σ' 1 v (((scan s).take i).map sc1) ∧ Kept noX σ σ') (scan s).length (by omega) ?_ ?_
   · refine ⟨0, .sc .nilS, rfl, Nat.zero_le _, ?_, ?_, ?_, by simpa using Ow.nil, Kept.refl _ _⟩
     all_goals first | rfl | (simp -implicitDefEqProofs (disch := first | exact nbf rfl | exact nbt rfl | (simp only [zN.down, reduceCtorEq] <;> omega) | omega) only [XOp.kind, AOp.kind, zU.down, simprocAttr]; done) | (simp -implicitDefEqProofs (disch := first | exact nbf rfl | exact nbt rfl | (simp only [zN.down, reduceCtorEq] <;> omega) | omega) only [flen, XOp.kind, AOp.kind, zU.down, simprocAttr]; rfl)
   · rintro m ρ σ' ⟨i, v, hm, hi, e0, e4, e5, how, kp⟩
     have hfl := flen_take_le (scan s) i
     have h1 := str_hi (s := s) (l := flen ((scan s).take i)) (by omega)
     have hsa := scan_at i s hi
     have hst := scan_eq (s.drop (flen ((scan s).take i)))
     rw [hsa] at hst
     simp -implicitDefEqProofs (disch := first | exact nbf rfl | exact nbt rfl | (simp only [zN.down, reduceCtorEq] <;> omega) | omega) only [e0, e4, e5, h1, XOp.kind, AOp.kind, zU.down, simprocAttr]
     repeat first | apply w_fin | apply w_seq | apply w_block | apply w_reg | apply w_op | apply w_dop
     refine (ht σ' (s.drop (flen ((scan s).take i))) (by rw [List.length_drop]; omega)).mono ?_
     rintro ⟨_, σ2⟩ ⟨rfl, k2⟩
     dsimp only at k2
     have how2 := how.kept0 k2
     have kk := kp.trans k2
     by_cases c : (ftk (s.drop (flen ((scan s).take i)))).2.2 = 0
     · rw [if_pos c] at hst
       have hil : i < (scan s).length := by
        rcases Nat.lt_or_ge i (scan s).length with h | h
        · exact h
        · rw [List.drop_eq_nil_of_le h] at hst; cases hst
       rw [List.drop_eq_getElem_cons hil] at hst
       have hp := (List.cons.inj hst).1
       obtain ⟨q1, q2, q3⟩ := ftk_ok c
       rw [q2, c, ← hp]
       have hft := flen_take_succ hil
       have hfl2 := flen_take_le (scan s) (i + 1)
       have b1 := ssl1 (scan s)[i]
       have htk : (scan s).take i ++ [(scan s)[i]] = (scan s).take (i + 1) := by rw [List.take_add_one, List.getElem?_eq_getElem hil]; rfl
       have hrv := sc1_rv (scan s)[i]
       generalize (scan s)[i] = p at *
       have w1 : IntKind.i64.wrap ((flen ((scan s).take i) : Int) + ((p.length + 12 : Nat) : Int)) = ((flen ((scan s).take (i + 1)) : Nat) : Int) := by
        rw [wrap64 (by omega) (by omega), hft]; omega
       have z0 : ((0 : Nat) : Int) = 0 := rfl
       have hlt : ((scan s).take i).length ≤ i := by rw [List.length_take]; omega
       simp -implicitDefEqProofs (disch := first | exact nbf rfl | exact nbt rfl | (simp only [zN.down, reduceCtorEq] <;> omega) | omega) only [e0, e4, e5, z0, b1, XOp.kind, AOp.kind, zU.down, simprocAttr]
       repeat first | apply w_fin | apply w_seq | apply w_block | apply w_reg | apply w_op | apply w_dop
       refine (grow_ok how2 hrv kk.n (by unfold roomB; simp; omega) (by unfold roomB; simp; omega)).mono ?_
       rintro ⟨v', σ3⟩ ⟨h3, h4⟩
       dsimp only at h3 h4
       rw [← List.map_append, htk] at h3
       simp -implicitDefEqProofs (disch := first | exact nbf rfl | exact nbt rfl | (simp only [zN.down, reduceCtorEq] <;> omega) | omega) only [e0, e5, w1, XOp.kind, AOp.kind, zU.down, simprocAttr]
       exact ⟨(scan s).length - (i + 1), by omega, i + 1, v', rfl, hil, rfl, rfl, h3, h4.kept kk (Nat.le_refl _)⟩
     · rw [if_neg c] at hst
       have : i = (scan s).length := by
        have := congrArg List.length hst
        rw [List.length_drop, List.length_nil] at this
        omega
       have d1 : (((ftk (s.drop (flen ((scan s).take i)))).2.2 : Int) != 0) = true := by simp only [bne_iff_ne, ne_eq]; omega
       subst this
       rw [List.take_length] at how2 e5
       simp -implicitDefEqProofs (disch := first | exact nbf rfl | exact nbt rfl | (simp only [zN.down, reduceCtorEq] <;> omega) | omega) only [d1, e4, e5, XOp.kind, AOp.kind, zU.down, simprocAttr]
       refine ⟨_, _, v, rfl, ?_, ?_, how2, kk⟩
       all_goals (simp -implicitDefEqProofs (disch := first | exact nbf rfl | exact nbt rfl | (simp only [zN.down, reduceCtorEq] <;> omega) | omega) only [XOp.kind, AOp.kind, zU.down, simprocAttr]; done)
 · rintro _ ⟨ρ, σ', v, rfl, e2, e3, how, kp⟩
   simp -implicitDefEqProofs (disch := first | exact nbf rfl | exact nbt rfl | (simp only [zN.down, reduceCtorEq] <;> omega) | omega) only [e2, e3, XOp.kind, AOp.kind, zU.down, simprocAttr]
   exact ⟨v, rfl, how, kp⟩
end Go.Proofs.YtehdjkikcfeiaaaGreat.fr
