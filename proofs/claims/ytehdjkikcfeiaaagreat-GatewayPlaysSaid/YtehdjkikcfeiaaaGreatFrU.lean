/- Sums: the program's, the document's. Bytes written, read. Frames: the program's. Frames one behind the other. Frames, all of them. Frames: there and back (plain). -/
import Derived.Test.YtehdjkikcfeiaaaGreatAbB
import Derived.Test.YtehdjkikcfeiaaaGreatAbC
import Derived.Test.YtehdjkikcfeiaaaGreatAbI
namespace Go.Proofs.YtehdjkikcfeiaaaGreat.fr
open Go.Ab
set_option maxRecDepth 100000
set_option maxHeartbeats 8000000
set_option linter.unusedSimpArgs false
set_option linter.unusedVariables false
def tabc : List V := (List.range 16).map fun i => .sc (.int .u32 (cN i : Nat))
def zt : List V := List.replicate 16 (.sc (.int .u32 0))
theorem tab_at {i : Nat} (h : i < 16) : tabc[i]? = some (.sc (.int .u32 (cN i : Nat))) := by simp [tabc, h]
def part (i : Nat) : List V := tabc.take i ++ zt.drop i
theorem tabc_len : tabc.length = 16 := by simp [tabc]
theorem part_set {i : Nat} (h : i < 16) : (part i).set i (.sc (.int .u32 (cN i : Nat))) = part (i + 1) := by
 apply List.ext_getElem?
 intro j
 have e1 : (part i).length = 16 := by simp [part, tabc_len, zt]; omega
 unfold part at *
 by_cases hj : j = i
 · subst hj
   rw [set_self (by omega), List.getElem?_append_left (by simp [tabc_len]; omega), List.getElem?_take, if_pos (by omega), tab_at h]
 · rw [List.getElem?_set_ne (by omega)]
   by_cases hl : j < i
   · rw [List.getElem?_append_left (by simp [tabc_len]; omega), List.getElem?_append_left (by simp [tabc_len]; omega), List.getElem?_take, List.getElem?_take, if_pos hl, if_pos (by omega)]
   · rw [List.getElem?_append_right (by simp [tabc_len]; omega), List.getElem?_append_right (by simp [tabc_len]; omega), List.getElem?_drop, List.getElem?_drop]
     congr 1
     simp [tabc_len]
     omega
theorem part_len {i : Nat} (h : i ≤ 16) : (part i).length = 16 := by simp [part, tabc_len, zt]; omega
theorem table_ok (k : Nat) (ys : YlF) (σ : St) (hk : 20 ≤ k) :
  W (callY Tab.tb (k + 1) ys 100 [] σ) fun r => r.1 = .agg tabc ∧ Kept noX σ r.2 := by
 rw [s_call (af := Tab.b100) rfl (Nat.le_of_ble_eq_true rfl)]
 generalize callY Tab.tb k = cy
 have hz : zt = [.sc (.int .u32 0), .sc (.int .u32 0), .sc (.int .u32 0), .sc (.int .u32 0), .sc (.int .u32 0), .sc (.int .u32 0), .sc (.int .u32 0), .sc (.int .u32 0), .sc (.int .u32 0), .sc (.int .u32 0), .sc (.int .u32 0), .sc (.int .u32 0), .sc (.int .u32 0), .sc (.int .u32 0), .sc (.int .u32 0), .sc (.int .u32 0)] := rfl
 simp -implicitDefEqProofs (disch := first | exact nbf rfl | exact nbt rfl | (simp only [zN.down, reduceCtorEq] <;> omega) | omega) only [Tab.b100, XOp.kind, AOp.kind, zU.down, simprocAttr]
 repeat first | apply w_fin | apply w_seq | apply w_block | apply w_reg | apply w_op | apply w_dop
 rw [← hz]
 have g0 : (σ.bump.push (.cells zt)).get σ.bump.n = some (.cells zt) := get_push_self
 have k0 : Kept noX σ (σ.bump.push (.cells zt)) := ((Kept.refl _ _).bump).push _
 rw [St.n_bump] at g0
 have hno : σ.n ≤ σ.n + 1 := by omega
 generalize σ.n + 1 = o at *
 generalize (σ.bump.push (.cells zt)) = σ1 at *
 refine W.mono (Q := fun r => ∃ (ρ : Env) (σ' : St), r = ((.exit 0 : Ex), ρ, σ') ∧ ρ 0 = .agg zt ∧ ρ 1 = .ptr o 0 ∧ σ'.get o = some (.cells tabc) ∧ Kept noX σ σ') ?_ ?_
 · refine w_loop (fun m ρ σ' => ∃ i, m = 16 - i ∧ i ≤ 16 ∧ ρ 0 = .agg zt ∧ ρ 1 = .ptr o 0 ∧ ρ 4 = .sc (.int .i64 i) ∧ σ'.get o = some (.cells (part i)) ∧ Kept noX σ σ') 16 (by omega) ?_ ?_
   · refine ⟨0, rfl, by omega, ?_, ?_, ?_, g0, k0⟩
     all_goals first | rfl | (simp -implicitDefEqProofs (disch := first | exact nbf rfl | exact nbt rfl | (simp only [zN.down, reduceCtorEq] <;> omega) | omega) only [XOp.kind, AOp.kind, zU.down, simprocAttr]; done) | (simp -implicitDefEqProofs (disch := first | exact nbf rfl | exact nbt rfl | (simp only [zN.down, reduceCtorEq] <;> omega) | omega) only [hz, XOp.kind, AOp.kind, zU.down, simprocAttr]; rfl)
   · rintro m ρ σ' ⟨i, hm, hi, e0, e1, e4, g, kp⟩
     by_cases hl : i < 16
     · have c1 : decide ((i : Int) < 16) = true := by simp; omega
       have w1 : IntKind.u32.wrap (i : Int) = i := wrap_u32 (by omega)
       have w2 : IntKind.i64.wrap ((i : Int) + 1) = ((i + 1 : Nat) : Int) := wrap64 (by omega) (by omega)
       have gl := St.get_lt g
       simp -implicitDefEqProofs (disch := first | exact nbf rfl | exact nbt rfl | (simp only [zN.down, reduceCtorEq] <;> omega) | omega) only [c1, e0, e1, e4, w1, XOp.kind, AOp.kind, zU.down, simprocAttr]
       repeat first | apply w_fin | apply w_seq | apply w_block | apply w_reg | apply w_op | apply w_dop
       refine W.mono (Q := fun r => ∃ (ρ' : Env), r = ((.exit 2 : Ex), ρ', σ') ∧ ρ' 0 = .agg zt ∧ ρ' 1 = .ptr o 0 ∧ ρ' 2 = .sc (.int .i64 i) ∧ ρ' 3 = .sc (.int .u32 (cN i : Nat)) ∧ ρ' 4 = .sc (.int .i64 i)) ?_ ?_
       · refine w_loop (fun m ρ' σ2 => ∃ j x, m = 4 - j ∧ j ≤ 4 ∧ σ2 = σ' ∧ x < 4294967296 ∧ cFs (4 - j) x = cN i ∧ ρ' 0 = .agg zt ∧ ρ' 1 = .ptr o 0 ∧ ρ' 2 = .sc (.int .i64 i) ∧ ρ' 3 = .sc (.int .u32 (x : Nat)) ∧ ρ' 4 = .sc (.int .i64 i) ∧ ρ' 9 = .sc (.int .i64 j)) 4 (by omega) ?_ ?_
         · refine ⟨0, i, rfl, by omega, rfl, by omega, rfl, ?_, ?_, ?_, ?_, ?_, ?_⟩
           all_goals first | rfl | (simp -implicitDefEqProofs (disch := first | exact nbf rfl | exact nbt rfl | (simp only [zN.down, reduceCtorEq] <;> omega) | omega) only [e0, e1, e4, XOp.kind, AOp.kind, zU.down, simprocAttr]; done) | (simp -implicitDefEqProofs (disch := first | exact nbf rfl | exact nbt rfl | (simp only [zN.down, reduceCtorEq] <;> omega) | omega) only [e0, e1, e4, XOp.kind, AOp.kind, zU.down, simprocAttr]; rfl)
         · rintro m ρ' σ2 ⟨j, x, hm, hj, rfl, hx, hf, f0, f1, f2, f3, f4, f9⟩
           by_cases hl2 : j < 4
           · have d1 : decide ((j : Int) < 4) = true := by simp; omega
             have v1 : IntKind.i64.wrap ((j : Int) + 1) = ((j + 1 : Nat) : Int) := wrap64 (by omega) (by omega)
             have s1 := shr1 (k := .u32) (a := x) (by decide)
             have a1 := u_and1 hx
             have nx : cFs (4 - (j + 1)) (cF x) = cN i := by rw [← hf, show 4 - j = (4 - (j + 1)) + 1 by omega]; rfl
             have hx2 := cF_lt hx
             rcases Nat.mod_two_eq_zero_or_one x with h2 | h2
             · rw [h2] at a1
               have x1 := u_x0 (a := x / 2) (by omega)
               have hc : x / 2 = cF x := by unfold cF; rw [if_neg (by omega)]
               rw [hc] at s1
               have a1 : _ = (0 : Int) := a1
               rw [hc] at x1
               have p0 := u_p0
               simp -implicitDefEqProofs (disch := first | exact nbf rfl | exact nbt rfl | (simp only [zN.down, reduceCtorEq] <;> omega) | omega) only [d1, f0, f1, f2, f3, f4, f9, s1, a1, p0, x1, v1, XOp.kind, AOp.kind, zU.down, simprocAttr]
               exact ⟨4 - (j + 1), by omega, j + 1, cF x, rfl, by omega, hx2, nx, by simp, by simp⟩
             · rw [h2] at a1
               have x1 := u_xP (a := x / 2) (by omega)
               have a1 : _ = (1 : Int) := a1
               have hc : (x / 2) ^^^ 2197175160 = cF x := by unfold cF; rw [if_pos h2]
               rw [hc] at x1
               have p1 := u_p1
               simp -implicitDefEqProofs (disch := first | exact nbf rfl | exact nbt rfl | (simp only [zN.down, reduceCtorEq] <;> omega) | omega) only [d1, f0, f1, f2, f3, f4, f9, s1, a1, p1, x1, v1, XOp.kind, AOp.kind, zU.down, simprocAttr]
               exact ⟨4 - (j + 1), by omega, j + 1, cF x, rfl, by omega, hx2, nx, by simp, by simp⟩
           · have d1 : decide ((j : Int) < 4) = false := by simp; omega
             have : j = 4 := by omega
             subst this
             have hxi : x = cN i := hf
             subst hxi
             simp -implicitDefEqProofs (disch := first | exact nbf rfl | exact nbt rfl | (simp only [zN.down, reduceCtorEq] <;> omega) | omega) only [d1, f9, XOp.kind, AOp.kind, zU.down, simprocAttr]
             refine ⟨_, rfl, ?_, ?_, ?_, ?_, ?_⟩
             all_goals (simp -implicitDefEqProofs (disch := first | exact nbf rfl | exact nbt rfl | (simp only [zN.down, reduceCtorEq] <;> omega) | omega) only [f0, f1, f2, f3, f4, XOp.kind, AOp.kind, zU.down, simprocAttr]; done)
       · rintro _ ⟨ρ', rfl, f0, f1, f2, f3, f4⟩
         have ar : aArrAddr 16 1 (.ptr o 0) (.sc (.int .i64 i)) = some (.ptr o i) := by have := arr_ok (o := o) (off := 0) (sz := 1) hl; simpa using this
         have hpl := part_len (i := i) (by omega)
         have lle : (i + 1 ≤ (part i).length) = True := by simp only [eq_iff_iff, iff_true]; omega
         have hps := part_set hl
         simp -implicitDefEqProofs (disch := first | exact nbf rfl | exact nbt rfl | (simp only [zN.down, reduceCtorEq] <;> omega) | omega) only [f0, f1, f2, f3, f4, ar, g, lle, w2, hps, XOp.kind, aEqV, AOp.kind, zP.down, zQ.down, zR.down, zS.down, simprocAttr]
         exact ⟨16 - (i + 1), by omega, i + 1, rfl, by omega, rfl, rfl, kp.put (.inr hno) gl _⟩
     · have c1 : decide ((i : Int) < 16) = false := by simp; omega
       have : i = 16 := by omega
       subst this
       simp -implicitDefEqProofs (disch := first | exact nbf rfl | exact nbt rfl | (simp only [zN.down, reduceCtorEq] <;> omega) | omega) only [c1, e4, XOp.kind, AOp.kind, zU.down, simprocAttr]
       exact ⟨_, _, rfl, by simp -implicitDefEqProofs (disch := first | exact nbf rfl | exact nbt rfl | (simp only [zN.down, reduceCtorEq] <;> omega) | omega) only [e0, XOp.kind, AOp.kind, zU.down, simprocAttr], by simp -implicitDefEqProofs (disch := first | exact nbf rfl | exact nbt rfl | (simp only [zN.down, reduceCtorEq] <;> omega) | omega) only [e1, XOp.kind, AOp.kind, zU.down, simprocAttr], g, kp⟩
 · rintro _ ⟨ρ, σ', rfl, e0, e1, g, kp⟩
   have t1 : tabc.take 16 = tabc := List.take_of_length_le (by simp [tabc_len])
   have t2 : zt.drop 16 = [] := rfl
   have t3 : tabc.all V.oneCell = true := by decide
   have t4 : (0 + 16 ≤ zt.length) = True := by simp [zt]
   have t5 : (16 ≤ tabc.length) = True := by simp [tabc_len]
   have t6 : zt.length = 16 := rfl
   simp -implicitDefEqProofs (disch := first | exact nbf rfl | exact nbt rfl | (simp only [zN.down, reduceCtorEq] <;> omega) | omega) only [e0, e1, g, t1, t2, t3, t4, t5, t6, tabc_len, XOp.kind, AOp.kind, zU.down, simprocAttr]
   exact kp
theorem more_ok (k : Nat) (ys : YlF) (σ : St) (s : List UInt8) (hs : s.length ≤ 140737488355328) (hk : s.length + 30 ≤ k) :
  W (callY Tab.tb (k + 2) ys 97 [.sc (.int .u32 0), .str s] σ) fun r => r.1 = .sc (.int .u32 (crc s : Nat)) ∧ Kept noX σ r.2 := by
 rw [s_call (af := Tab.b97) rfl (Nat.le_of_ble_eq_true rfl)]
 have ht := fun σ => table_ok k ys σ (by omega)
 generalize callY Tab.tb (k + 1) = cy at ht ⊢
 have hz : zt = [.sc (.int .u32 0), .sc (.int .u32 0), .sc (.int .u32 0), .sc (.int .u32 0), .sc (.int .u32 0), .sc (.int .u32 0), .sc (.int .u32 0), .sc (.int .u32 0), .sc (.int .u32 0), .sc (.int .u32 0), .sc (.int .u32 0), .sc (.int .u32 0), .sc (.int .u32 0), .sc (.int .u32 0), .sc (.int .u32 0), .sc (.int .u32 0)] := rfl
 have un0 : aUn .xor (.sc (.int .u32 0)) = some (.sc (.int .u32 ((4294967295 : Nat) : Int))) := un_not (a := 0) (by decide)
 simp -implicitDefEqProofs (disch := first | exact nbf rfl | exact nbt rfl | (simp only [zN.down, reduceCtorEq] <;> omega) | omega) only [Tab.b97, XOp.kind, AOp.kind, zU.down, simprocAttr]
 repeat first | apply w_fin | apply w_seq | apply w_block | apply w_reg | apply w_op | apply w_dop
 refine (ht σ).mono ?_
 rintro ⟨_, σ1⟩ ⟨rfl, k1⟩
 dsimp only at k1
 have t2 : zt.drop 16 = [] := rfl
 have t3 : tabc.all V.oneCell = true := by decide
 have t4 : (0 + 16 ≤ zt.length) = True := by simp [zt]
 have t6 : zt.length = 16 := rfl
 have g1 : (σ1.push (.cells zt)).get σ1.n = some (.cells zt) := get_push_self
 have t7 : zt.all V.oneCell = true := by decide
 simp -implicitDefEqProofs (disch := first | exact nbf rfl | exact nbt rfl | (simp only [zN.down, reduceCtorEq] <;> omega) | omega) only [← hz, g1, t2, t3, t4, t6, t7, tabc_len, un0, XOp.kind, V.bool, V.i64, aBox, aLoad, aFold, chkAdd, effAdd, AOp.kind, chkAll, chkSee, zP.down, zQ.down, zR.down, zT.down, AOper.o, AOper.p, simprocAttr]
 repeat first | apply w_fin | apply w_seq | apply w_block | apply w_reg | apply w_op | apply w_dop
 have hn : σ1.n < (σ1.push (.cells zt)).n := by simp
 have g2 : ((σ1.push (.cells zt)).put σ1.n (some (.cells tabc))).get σ1.n = some (.cells tabc) := get_put_self g1
 have k2 : Kept noX σ ((σ1.push (.cells zt)).put σ1.n (some (.cells tabc))) := (k1.push _).put (.inr k1.n) hn _
 generalize ((σ1.push (.cells zt)).put σ1.n (some (.cells tabc))) = σ2 at *
 generalize σ1.n = o at *
 refine W.mono (Q := fun r => ∃ (ρ : Env), r = ((.exit 0 : Ex), ρ, σ2) ∧ ρ 6 = .sc (.int .u32 (cS 4294967295 s : Nat))) ?_ ?_
 · refine w_loop (fun m ρ σ' => ∃ i, m = s.length - i ∧ i ≤ s.length ∧ σ' = σ2 ∧ ρ 1 = .str s ∧ ρ 5 = .ptr o 0 ∧ ρ 6 = .sc (.int .u32 (cS 4294967295 (s.take i) : Nat)) ∧ ρ 12 = .sc (.int .i64 s.length) ∧ ρ 13 = .sc (.int .i64 i)) s.length (by omega) ?_ ?_
   · refine ⟨0, rfl, Nat.zero_le _, rfl, ?_, ?_, ?_, ?_, ?_⟩
     all_goals first | rfl | (simp -implicitDefEqProofs (disch := first | exact nbf rfl | exact nbt rfl | (simp only [zN.down, reduceCtorEq] <;> omega) | omega) only [XOp.kind, AOp.kind, zU.down, simprocAttr]; done) | (simp -implicitDefEqProofs (disch := first | exact nbf rfl | exact nbt rfl | (simp only [zN.down, reduceCtorEq] <;> omega) | omega) only [XOp.kind, AOp.kind, zU.down, simprocAttr]; rfl)
   · rintro m ρ σ' ⟨i, hm, hi, rfl, e1, e5, e6, e12, e13⟩
     by_cases hl : i < s.length
     · have c1 : decide ((i : Int) < (s.length : Int)) = true := by simpa using hl
       have hsn := cS_snoc 4294967295 (s.take i) s[i]
       have htk : s.take i ++ [s[i]] = s.take (i + 1) := by rw [List.take_add_one, List.getElem?_eq_getElem hl]; rfl
       rw [htk] at hsn
       have hx : cS 4294967295 (s.take i) < 4294967296 := cS_lt _ (by decide)
       have at1 := str_at hl
       generalize cS 4294967295 (s.take i) = x at *
       generalize s[i] = b at *
       have hb := b.toNat_lt
       have q1 : IntKind.u32.wrap (b.toNat : Int) = b.toNat := wrap_u32 (by omega)
       have u1 := u_xor hx (b := b.toNat) (by omega)
       have hx1 : x ^^^ b.toNat < 4294967296 := Nat.xor_lt_two_pow (n := 32) hx (by omega)
       unfold cB at hsn
       generalize x ^^^ b.toNat = x1 at *
       have a1 := u_and15 hx1
       have s1 := shr4 (a := x1)
       have r1 := arr_u32 (o := o) (i := x1 % 16) (by omega)
       have l1 : aLoad σ' (.ptr o (x1 % 16)) none = some (.sc (.int .u32 (cN (x1 % 16) : Nat))) := by
        rw [load_ok g2]; simp only [aPart]; exact tab_at (by omega)
       have u2 := u_xor (a := cN (x1 % 16)) (b := x1 / 16) (cN_lt (by omega)) (by omega)
       rw [← cN_tab] at u2
       have hx2 := cN_lt hx1
       generalize cN x1 = x2 at *
       have a2 := u_and15 hx2
       have s2 := shr4 (a := x2)
       have r2 := arr_u32 (o := o) (i := x2 % 16) (by omega)
       have l2 : aLoad σ' (.ptr o (x2 % 16)) none = some (.sc (.int .u32 (cN (x2 % 16) : Nat))) := by
        rw [load_ok g2]; simp only [aPart]; exact tab_at (by omega)
       have u3 := u_xor (a := cN (x2 % 16)) (b := x2 / 16) (cN_lt (by omega)) (by omega)
       rw [← cN_tab] at u3
       have w2 : IntKind.i64.wrap ((i : Int) + 1) = ((i + 1 : Nat) : Int) := wrap64 (by omega) (by omega)
       simp -implicitDefEqProofs (disch := first | exact nbf rfl | exact nbt rfl | (simp only [zN.down, reduceCtorEq] <;> omega) | omega) only [c1, e1, e5, e6, e12, e13, at1, q1, u1, a1, s1, r1, l1, u2, a2, s2, r2, l2, u3, w2, XOp.kind, V.bool, V.i64, aUn, aBox, aFold, aEqV, chkAdd, effAdd, AOp.kind, chkAll, chkSee, zP.down, zQ.down, zR.down, AOper.o, AOper.p, simprocAttr]
       exact ⟨s.length - (i + 1), by omega, i + 1, rfl, by omega, by rw [hsn], rfl⟩
     · have c1 : decide ((i : Int) < (s.length : Int)) = false := by simpa using hl
       have : i = s.length := by omega
       subst this
       rw [List.take_length] at e6
       simp -implicitDefEqProofs (disch := first | exact nbf rfl | exact nbt rfl | (simp only [zN.down, reduceCtorEq] <;> omega) | omega) only [c1, e12, e13, XOp.kind, AOp.kind, zU.down, simprocAttr]
       exact ⟨_, rfl, by simp -implicitDefEqProofs (disch := first | exact nbf rfl | exact nbt rfl | (simp only [zN.down, reduceCtorEq] <;> omega) | omega) only [e6, XOp.kind, AOp.kind, zU.down, simprocAttr]⟩
 · rintro _ ⟨ρ, rfl, e6⟩
   have hx : cS 4294967295 s < 4294967296 := cS_lt _ (by decide)
   have un1 := un_not hx
   simp -implicitDefEqProofs (disch := first | exact nbf rfl | exact nbt rfl | (simp only [zN.down, reduceCtorEq] <;> omega) | omega) only [e6, un1, crc, XOp.kind, V.bool, V.i64, aBox, aLoad, aFold, chkAdd, effAdd, AOp.kind, chkAll, chkSee, zP.down, zQ.down, zR.down, zT.down, AOper.o, AOper.p, simprocAttr]
   exact k2
theorem of_ok (k : Nat) (ys : YlF) (σ : St) (s : List UInt8) (hs : s.length ≤ 140737488355328) (hk : s.length + 30 ≤ k) :
  W (callY Tab.tb (k + 3) ys 89 [.str s] σ) fun r => r.1 = .sc (.int .u32 (crc s : Nat)) ∧ Kept noX σ r.2 := by
 rw [s_call (af := Tab.b89) rfl (Nat.le_of_ble_eq_true rfl)]
 have hm := fun σ => more_ok k ys σ s hs hk
 generalize callY Tab.tb (k + 2) = cy at hm ⊢
 simp -implicitDefEqProofs (disch := first | exact nbf rfl | exact nbt rfl | (simp only [zN.down, reduceCtorEq] <;> omega) | omega) only [Tab.b89, XOp.kind, AOp.kind, zU.down, simprocAttr]
 repeat first | apply w_fin | apply w_seq | apply w_block | apply w_reg | apply w_op | apply w_dop
 refine (hm σ).mono ?_
 rintro ⟨_, σ1⟩ ⟨rfl, k1⟩
 simp -implicitDefEqProofs (disch := first | exact nbf rfl | exact nbt rfl | (simp only [zN.down, reduceCtorEq] <;> omega) | omega) only [XOp.kind, AOp.kind, zU.down, simprocAttr]
 exact k1
end Go.Proofs.YtehdjkikcfeiaaaGreat.fr
namespace Go.Proofs.YtehdjkikcfeiaaaGreat.fr
open Go.Ab
set_option maxRecDepth 100000
set_option maxHeartbeats 8000000
set_option linter.unusedSimpArgs false
set_option linter.unusedVariables false
theorem u32_ok (k : Nat) (ys : YlF) (σ : St) (n : Nat) (hn : n < 4294967296) :
  callY Tab.tb (k + 1) ys 99 [.sc (.int .u32 (n : Int))] σ = some (.str (be 4 n), σ) := by
 rw [s_call (af := Tab.b99) rfl (Nat.le_of_ble_eq_true rfl)]
 generalize callY Tab.tb k = cy
 have c1 : IntKind.u8.wrap ((n / 16777216 : Nat) : Int) = ((n / 16777216 % 256 : Nat) : Int) := wrap_mod8 _
 have c2 : IntKind.u8.wrap ((n / 65536 : Nat) : Int) = ((n / 65536 % 256 : Nat) : Int) := wrap_mod8 _
 have c3 : IntKind.u8.wrap ((n / 256 : Nat) : Int) = ((n / 256 % 256 : Nat) : Int) := wrap_mod8 _
 have c4 : IntKind.u8.wrap (n : Int) = ((n % 256 : Nat) : Int) := wrap_mod8 _
 have b1 : ∀ a b c d : V, aBslice 1 4 [.sc (.int .u8 0)] [(0, 1, a), (1, 1, b), (2, 1, c), (3, 1, d)] = aBslice 1 4 [.sc (.int .u8 0)] [(0, 1, a), (1, 1, b), (2, 1, c), (3, 1, d)] := fun _ _ _ _ => rfl
 have b2 : aBslice 1 4 [.sc (.int .u8 0)] [(0, 1, .sc (.int .u8 ((n / 16777216 % 256 : Nat) : Int))), (1, 1, .sc (.int .u8 ((n / 65536 % 256 : Nat) : Int))), (2, 1, .sc (.int .u8 ((n / 256 % 256 : Nat) : Int))), (3, 1, .sc (.int .u8 ((n % 256 : Nat) : Int)))] = some (.vs .exact 1 4 ((be 4 n).map byteV)) := by
  rw [be4, List.map_cons, List.map_cons, List.map_cons, List.map_cons, List.map_nil, byteV_ofNat (by omega), byteV_ofNat (by omega), byteV_ofNat (by omega), byteV_ofNat (by omega)]
  rfl
 have b3 : ∀ σ, aB2s σ (.vs .exact 1 4 ((be 4 n).map byteV)) = some (.str (be 4 n)) := fun σ => b2s_rv (by have := bc_rv .exact (be 4 n); rwa [be_len] at this)
 simp -implicitDefEqProofs (disch := first | exact nbf rfl | exact nbt rfl | (simp only [zN.down, reduceCtorEq] <;> omega) | omega) only [Tab.b99, shr24, shr16, shr8, c1, c2, c3, c4, b2, b3, XOp.kind, AOp.kind, zU.down, simprocAttr]
theorem u64_ok (k : Nat) (ys : YlF) (σ : St) (n : Nat) (hn : n < 18446744073709551616) :
  callY Tab.tb (k + 2) ys 96 [.sc (.int .u64 (n : Int))] σ = some (.str (be 8 n), σ) := by
 rw [s_call (af := Tab.b96) rfl (Nat.le_of_ble_eq_true rfl)]
 have h := fun σ n hn => u32_ok k ys σ n hn
 generalize callY Tab.tb (k + 1) = cy at h ⊢
 have c1 : IntKind.u32.wrap ((n / 4294967296 : Nat) : Int) = ((n / 4294967296 % 4294967296 : Nat) : Int) := wrap_mod32 _
 have c2 : IntKind.u32.wrap (n : Int) = ((n % 4294967296 : Nat) : Int) := wrap_mod32 _
 have h1 := fun σ => h σ (n / 4294967296 % 4294967296) (by omega)
 have h2 := fun σ => h σ (n % 4294967296) (by omega)
 have h3 := str_add (a := be 4 (n / 4294967296 % 4294967296)) (b := be 4 (n % 4294967296)) (by rw [be_len, be_len]; decide)
 rw [← be8] at h3
 simp -implicitDefEqProofs (disch := first | exact nbf rfl | exact nbt rfl | (simp only [zN.down, reduceCtorEq] <;> omega) | omega) only [Tab.b96, shr32, c1, c2, h1, h2, h3, XOp.kind, AOp.kind, zU.down, simprocAttr]
structure Rd where
 s : List UInt8
 at' : Nat
 err : Nat
 bad : Nat
def RR (σ : St) (o : Nat) (r : Rd) : Prop := σ.get o = some (.cells [.str r.s, .sc (.int .i64 r.at'), .sc (.int .i64 r.err), .sc (.int .i64 r.bad)])
def Rd.num (r : Rd) (n : Nat) : Nat := if r.err ≠ 0 ∨ r.s.length - r.at' < n then 0 else val ((r.s.drop r.at').take n)
def Rd.go (r : Rd) (n : Nat) : Rd := if r.err ≠ 0 then r else if r.s.length - r.at' < n then { r with err := 7, bad := r.at' } else { r with at' := r.at' + n }
theorem Rd.go_s (r : Rd) (n : Nat) : (r.go n).s = r.s := by unfold Rd.go; split <;> (try split) <;> rfl
theorem Rd.go_le {r : Rd} (h : r.at' ≤ r.s.length) (n : Nat) : (r.go n).at' ≤ (r.go n).s.length := by
 unfold Rd.go
 split
 · exact h
 · split
   · exact h
   · simp only; omega
theorem rnew_ok (k : Nat) (ys : YlF) (σ : St) (s : List UInt8) : callY Tab.tb (k + 1) ys 65 [.str s] σ = some (.ptr σ.n 0, σ.push (.cells [.str s, .sc (.int .i64 0), .sc (.int .i64 0), .sc (.int .i64 0)])) := by
 rw [s_call (af := Tab.b65) rfl (Nat.le_of_ble_eq_true rfl)]
 generalize callY Tab.tb k = cy
 simp -implicitDefEqProofs (disch := first | exact nbf rfl | exact nbt rfl | (simp only [zN.down, reduceCtorEq] <;> omega) | omega) only [Tab.b65, XOp.kind, AOp.kind, zU.down, simprocAttr]
theorem RR.new (σ : St) (s : List UInt8) : RR (σ.push (.cells [.str s, .sc (.int .i64 0), .sc (.int .i64 0), .sc (.int .i64 0)])) σ.n ⟨s, 0, 0, 0⟩ := get_push_self
theorem pnil (σ : St) (n : Nat) : aEqV σ .ptr (.ptr n 0) (.sc .nilP) = some false := rfl
theorem take_ok (k : Nat) (ys : YlF) (σ : St) (o : Nat) (r : Rd) (n : Nat) (h : RR σ o r) (hl : r.s.length ≤ 140737488355328) (ha : r.at' ≤ r.s.length) (hn : n ≤ 1000000) :
  W (callY Tab.tb (k + 1) ys 92 [.ptr o 0, .sc (.int .i64 (n : Int))] σ) fun q => q.1 = (if r.err ≠ 0 ∨ r.s.length - r.at' < n then .tup [.str [], .sc (.bool false)] else .tup [.str ((r.s.drop r.at').take n), .sc (.bool true)]) ∧ RR q.2 o (r.go n) ∧ Kept (· = o) σ q.2 := by
 rw [s_call (af := Tab.b92) rfl (Nat.le_of_ble_eq_true rfl)]
 generalize callY Tab.tb k = cy
 unfold RR at *
 have gl := St.get_lt h
 by_cases c1 : r.err = 0
 · have d1 : ((r.err : Int) != 0) = false := by simp [c1]
   have w1 : IntKind.i64.wrap ((r.s.length : Int) - (r.at' : Int)) = (r.s.length : Int) - (r.at' : Int) := wrap64 (by omega) (by omega)
   have hz : ((r.err : Nat) : Int) = 0 := by omega
   by_cases c2 : r.s.length - r.at' < n
   · have d2 : decide ((n : Int) > (r.s.length : Int) - (r.at' : Int)) = true := by simp; omega
     have hgo : r.go n = { r with err := 7, bad := r.at' } := by unfold Rd.go; rw [if_neg (by omega), if_pos c2]
     rw [if_pos (.inr c2), hgo]
     simp -implicitDefEqProofs (disch := first | exact nbf rfl | exact nbt rfl | (simp only [zN.down, reduceCtorEq] <;> omega) | omega) only [Tab.b92, h, pnil, d1, w1, d2, XOp.kind, aArrAddr, AOp.kind, zP.down, zQ.down, zR.down, zS.down, simprocAttr]
     exact Kept.put (X := (· = o)) (Kept.refl _ _) (.inl rfl) gl _
   · have d2 : decide ((n : Int) > (r.s.length : Int) - (r.at' : Int)) = false := by simp; omega
     have hgo : r.go n = { r with at' := r.at' + n } := by unfold Rd.go; rw [if_neg (by omega), if_neg c2]
     have w2 : IntKind.i64.wrap ((r.at' : Int) + (n : Int)) = ((r.at' + n : Nat) : Int) := by rw [wrap64 (by omega) (by omega)]; omega
     have h3 := str_sl (s := r.s) (l := r.at') (h := r.at' + n) (by omega) (by omega)
     rw [Nat.add_sub_cancel_left] at h3
     rw [if_neg (by omega), hgo]
     simp -implicitDefEqProofs (disch := first | exact nbf rfl | exact nbt rfl | (simp only [zN.down, reduceCtorEq] <;> omega) | omega) only [Tab.b92, h, pnil, d1, w1, d2, w2, h3, XOp.kind, aArrAddr, AOp.kind, zP.down, zQ.down, zR.down, zS.down, simprocAttr]
     exact Kept.put (X := (· = o)) (Kept.refl _ _) (.inl rfl) gl _
 · have d1 : ((r.err : Int) != 0) = true := by simp; omega
   have hgo : r.go n = r := by unfold Rd.go; rw [if_pos c1]
   rw [if_pos (.inl c1), hgo]
   simp -implicitDefEqProofs (disch := first | exact nbf rfl | exact nbt rfl | (simp only [zN.down, reduceCtorEq] <;> omega) | omega) only [Tab.b92, h, pnil, d1, XOp.kind, aArrAddr, AOp.kind, zP.down, zQ.down, zR.down, zS.down, simprocAttr]
   exact Kept.refl _ _
theorem number_ok (k : Nat) (ys : YlF) (σ : St) (o : Nat) (r : Rd) (n : Nat) (h : RR σ o r) (hl : r.s.length ≤ 140737488355328) (ha : r.at' ≤ r.s.length) (hn : n ≤ 8) (hk : 20 ≤ k) :
  W (callY Tab.tb (k + 2) ys 90 [.ptr o 0, .sc (.int .i64 (n : Int))] σ) fun q => q.1 = .sc (.int .u64 (r.num n : Nat)) ∧ RR q.2 o (r.go n) ∧ Kept (· = o) σ q.2 := by
 rw [s_call (af := Tab.b90) rfl (Nat.le_of_ble_eq_true rfl)]
 have ht := take_ok k ys σ o r n h hl ha (by omega)
 generalize callY Tab.tb (k + 1) = cy at ht ⊢
 simp -implicitDefEqProofs (disch := first | exact nbf rfl | exact nbt rfl | (simp only [zN.down, reduceCtorEq] <;> omega) | omega) only [Tab.b90, XOp.kind, AOp.kind, zU.down, simprocAttr]
 repeat first | apply w_fin | apply w_seq | apply w_block | apply w_reg | apply w_op | apply w_dop
 refine ht.mono ?_
 rintro ⟨_, σ1⟩ ⟨rfl, h1, k1⟩
 dsimp only at h1 k1
 unfold Rd.num
 by_cases c : r.err ≠ 0 ∨ r.s.length - r.at' < n
 · rw [if_pos c, if_pos c]
   simp -implicitDefEqProofs (disch := first | exact nbf rfl | exact nbt rfl | (simp only [zN.down, reduceCtorEq] <;> omega) | omega) only [XOp.kind, AOp.kind, zU.down, simprocAttr]
   exact ⟨h1, k1⟩
 · rw [if_neg c, if_neg c]
   have hsl : ((r.s.drop r.at').take n).length = n := by rw [List.length_take, List.length_drop]; omega
   generalize (r.s.drop r.at').take n = s at *
   simp -implicitDefEqProofs (disch := first | exact nbf rfl | exact nbt rfl | (simp only [zN.down, reduceCtorEq] <;> omega) | omega) only [hsl, XOp.kind, AOp.kind, zU.down, simprocAttr]
   repeat first | apply w_fin | apply w_seq | apply w_block | apply w_reg | apply w_op | apply w_dop
   refine W.mono (Q := fun q => ∃ (ρ : Env), q = ((.exit 0 : Ex), ρ, σ1) ∧ ρ 7 = .sc (.int .u64 (val s : Nat))) ?_ ?_
   · refine w_loop (fun m ρ σ' => ∃ i, m = n - i ∧ i ≤ n ∧ σ' = σ1 ∧ ρ 5 = .str s ∧ ρ 7 = .sc (.int .u64 (val (s.take i) : Nat)) ∧ ρ 18 = .sc (.int .i64 n) ∧ ρ 19 = .sc (.int .i64 i)) n (by omega) ?_ ?_
     · refine ⟨0, rfl, Nat.zero_le _, rfl, ?_, ?_, ?_, ?_⟩
       all_goals first | rfl | (simp -implicitDefEqProofs (disch := first | exact nbf rfl | exact nbt rfl | (simp only [zN.down, reduceCtorEq] <;> omega) | omega) only [XOp.kind, AOp.kind, zU.down, simprocAttr]; done) | (simp -implicitDefEqProofs (disch := first | exact nbf rfl | exact nbt rfl | (simp only [zN.down, reduceCtorEq] <;> omega) | omega) only [XOp.kind, AOp.kind, zU.down, simprocAttr]; rfl)
     · rintro m ρ σ' ⟨i, hm, hi, rfl, e5, e7, e18, e19⟩
       by_cases hl : i < n
       · have c1 : decide ((i : Int) < (n : Int)) = true := by simpa using hl
         have hls : i < s.length := by omega
         have hsn := val_snoc (s.take i) s[i]
         have htk : s.take i ++ [s[i]] = s.take (i + 1) := by rw [List.take_add_one, List.getElem?_eq_getElem hls]; rfl
         rw [htk] at hsn
         have hx : val (s.take i) < 72057594037927936 := by
          have h1 := val_lt (s.take i)
          rw [List.length_take, Nat.min_eq_left (by omega)] at h1
          exact Nat.lt_of_lt_of_le h1 (Nat.le_trans (Nat.pow_le_pow_right (by decide) (show i ≤ 7 by omega)) (by decide))
         have at1 := str_at hls
         generalize val (s.take i) = x at *
         generalize s[i] = b at *
         have hb := b.toNat_lt
         have q1 : IntKind.u64.wrap (b.toNat : Int) = b.toNat := wrap_u64 (by omega)
         have s1 := shl8 hx
         have o1 := u_or64 hx (b := b.toNat) (by omega)
         have w2 : IntKind.i64.wrap ((i : Int) + 1) = ((i + 1 : Nat) : Int) := wrap64 (by omega) (by omega)
         rw [← hsn] at o1
         simp -implicitDefEqProofs (disch := first | exact nbf rfl | exact nbt rfl | (simp only [zN.down, reduceCtorEq] <;> omega) | omega) only [c1, e5, e7, e18, e19, at1, q1, s1, o1, w2, XOp.kind, AOp.kind, zU.down, simprocAttr]
         exact ⟨n - (i + 1), by omega, i + 1, rfl, by omega, rfl, rfl⟩
       · have c1 : decide ((i : Int) < (n : Int)) = false := by simpa using hl
         have : i = n := by omega
         subst this
         rw [List.take_of_length_le (by omega)] at e7
         simp -implicitDefEqProofs (disch := first | exact nbf rfl | exact nbt rfl | (simp only [zN.down, reduceCtorEq] <;> omega) | omega) only [c1, e18, e19, XOp.kind, AOp.kind, zU.down, simprocAttr]
         exact ⟨_, rfl, by simp -implicitDefEqProofs (disch := first | exact nbf rfl | exact nbt rfl | (simp only [zN.down, reduceCtorEq] <;> omega) | omega) only [e7, XOp.kind, AOp.kind, zU.down, simprocAttr]⟩
   · rintro _ ⟨ρ, rfl, e7⟩
     simp -implicitDefEqProofs (disch := first | exact nbf rfl | exact nbt rfl | (simp only [zN.down, reduceCtorEq] <;> omega) | omega) only [e7, XOp.kind, AOp.kind, zU.down, simprocAttr]
     exact ⟨h1, k1⟩
theorem num_lt (r : Rd) (n : Nat) : r.num n < 256 ^ n := by
 unfold Rd.num
 split
 · exact Nat.pow_pos (by decide)
 · refine Nat.lt_of_lt_of_le (val_lt _) (Nat.pow_le_pow_right (by decide) ?_)
   rw [List.length_take]; omega
theorem ru32_ok (k : Nat) (ys : YlF) (σ : St) (o : Nat) (r : Rd) (h : RR σ o r) (hl : r.s.length ≤ 140737488355328) (ha : r.at' ≤ r.s.length) (hk : 20 ≤ k) :
  W (callY Tab.tb (k + 3) ys 88 [.ptr o 0] σ) fun q => q.1 = .sc (.int .u32 (r.num 4 : Nat)) ∧ RR q.2 o (r.go 4) ∧ Kept (· = o) σ q.2 := by
 rw [s_call (af := Tab.b88) rfl (Nat.le_of_ble_eq_true rfl)]
 have ht := number_ok k ys σ o r 4 h hl ha (by omega) hk
 generalize callY Tab.tb (k + 2) = cy at ht ⊢
 have hlt := num_lt r 4
 have w1 : IntKind.u32.wrap (r.num 4 : Int) = (r.num 4 : Nat) := wrap_u32 (by omega)
 simp -implicitDefEqProofs (disch := first | exact nbf rfl | exact nbt rfl | (simp only [zN.down, reduceCtorEq] <;> omega) | omega) only [Tab.b88, XOp.kind, AOp.kind, zU.down, simprocAttr]
 repeat first | apply w_fin | apply w_seq | apply w_block | apply w_reg | apply w_op | apply w_dop
 refine ht.mono ?_
 rintro ⟨_, σ1⟩ ⟨rfl, h1, k1⟩
 simp -implicitDefEqProofs (disch := first | exact nbf rfl | exact nbt rfl | (simp only [zN.down, reduceCtorEq] <;> omega) | omega) only [w1, XOp.kind, AOp.kind, zU.down, simprocAttr]
 exact ⟨h1, k1⟩
theorem ru64_ok (k : Nat) (ys : YlF) (σ : St) (o : Nat) (r : Rd) (h : RR σ o r) (hl : r.s.length ≤ 140737488355328) (ha : r.at' ≤ r.s.length) (hk : 20 ≤ k) :
  W (callY Tab.tb (k + 3) ys 66 [.ptr o 0] σ) fun q => q.1 = .sc (.int .u64 (r.num 8 : Nat)) ∧ RR q.2 o (r.go 8) ∧ Kept (· = o) σ q.2 := by
 rw [s_call (af := Tab.b66) rfl (Nat.le_of_ble_eq_true rfl)]
 have ht := number_ok k ys σ o r 8 h hl ha (by omega) hk
 generalize callY Tab.tb (k + 2) = cy at ht ⊢
 simp -implicitDefEqProofs (disch := first | exact nbf rfl | exact nbt rfl | (simp only [zN.down, reduceCtorEq] <;> omega) | omega) only [Tab.b66, XOp.kind, AOp.kind, zU.down, simprocAttr]
 repeat first | apply w_fin | apply w_seq | apply w_block | apply w_reg | apply w_op | apply w_dop
 refine ht.mono ?_
 rintro ⟨_, σ1⟩ ⟨rfl, h1, k1⟩
 simp -implicitDefEqProofs (disch := first | exact nbf rfl | exact nbt rfl | (simp only [zN.down, reduceCtorEq] <;> omega) | omega) only [XOp.kind, AOp.kind, zU.down, simprocAttr]
 exact ⟨h1, k1⟩
end Go.Proofs.YtehdjkikcfeiaaaGreat.fr
namespace Go.Proofs.YtehdjkikcfeiaaaGreat.fr
open Go.Ab
set_option maxRecDepth 100000
set_option maxHeartbeats 8000000
set_option linter.unusedSimpArgs false
set_option linter.unusedVariables false
def fput (p : List UInt8) : List UInt8 := be 4 p.length ++ be 4 (crc (be 4 p.length)) ++ p ++ be 4 (crc p)
theorem fput_len (p : List UInt8) : (fput p).length = p.length + 12 := by simp [fput, be_len]; omega
def ftk (s : List UInt8) : List UInt8 × Nat × Nat :=
 if s.length < 8 then ([], 0, 30)
 else if val (s.take 4) > 4096 ∨ val ((s.drop 4).take 4) ≠ crc (s.take 4) then ([], 0, 7)
 else if s.length < val (s.take 4) + 12 then ([], 0, 30)
 else if val ((s.drop (8 + val (s.take 4))).take 4) ≠ crc ((s.drop 8).take (val (s.take 4))) then ([], 0, 7)
 else ((s.drop 8).take (val (s.take 4)), val (s.take 4) + 12, 0)
theorem ftk_ok {s : List UInt8} (h : (ftk s).2.2 = 0) : (ftk s).1.length ≤ 4096 ∧ (ftk s).2.1 = (ftk s).1.length + 12 ∧ (ftk s).1.length + 12 ≤ s.length := by
 unfold ftk at h ⊢
 split at h
 · cases h
 · rename_i h1
   split at h
   · cases h
   · rename_i h2
     split at h
     · cases h
     · rename_i h3
       split at h
       · cases h
       · rename_i h4
         rw [if_neg h1, if_neg h2, if_neg h3, if_neg h4]
         simp only [List.length_take, List.length_drop]
         omega
theorem Kept.new {σ σ' : St} {x : Ob} (h : Kept (· = σ.n) (σ.push x) σ') : Kept noX σ σ' :=
 ⟨by have := h.n; simp at this; omega, fun o y _ ho => h.get o y (by have := St.get_lt ho; omega) (get_push_lt ho)⟩
theorem put_ok (k : Nat) (ys : YlF) (σ : St) (p : List UInt8) (hp : p.length ≤ 4096) (hk : 5000 ≤ k) :
  W (callY Tab.tb (k + 4) ys 95 [.str p] σ) fun r => r.1 = .tup [.str (fput p), .sc (.int .i64 0)] ∧ Kept noX σ r.2 := by
 rw [s_call (af := Tab.b95) rfl (Nat.le_of_ble_eq_true rfl)]
 have hu := fun σ n hn => u32_ok (k + 2) ys σ n hn
 have ho := fun σ s hs hl => of_ok k ys σ s hs hl
 generalize callY Tab.tb (k + 3) = cy at hu ho ⊢
 have d1 : decide ((p.length : Int) > 4096) = false := by simp; omega
 have w1 : IntKind.u32.wrap (p.length : Int) = (p.length : Nat) := wrap_u32 (by omega)
 have u1 := fun σ => hu σ p.length (by omega)
 have hb := be_len 4 p.length
 simp -implicitDefEqProofs (disch := first | exact nbf rfl | exact nbt rfl | (simp only [zN.down, reduceCtorEq] <;> omega) | omega) only [Tab.b95, d1, w1, u1, XOp.kind, AOp.kind, zU.down, simprocAttr]
 repeat first | apply w_fin | apply w_seq | apply w_block | apply w_reg | apply w_op | apply w_dop
 refine (ho σ (be 4 p.length) (by omega) (by omega)).mono ?_
 rintro ⟨_, σ1⟩ ⟨rfl, k1⟩
 dsimp only at k1
 have u2 := fun σ => hu σ (crc (be 4 p.length)) (crc_lt _)
 have a1 := str_add (a := be 4 p.length) (b := be 4 (crc (be 4 p.length))) (by rw [be_len, be_len]; decide)
 have a2 := str_add (a := be 4 p.length ++ be 4 (crc (be 4 p.length))) (b := p) (by rw [List.length_append, be_len, be_len]; omega)
 simp -implicitDefEqProofs (disch := first | exact nbf rfl | exact nbt rfl | (simp only [zN.down, reduceCtorEq] <;> omega) | omega) only [u2, a1, a2, XOp.kind, AOp.kind, zU.down, simprocAttr]
 repeat first | apply w_fin | apply w_seq | apply w_block | apply w_reg | apply w_op | apply w_dop
 refine (ho σ1 p (by omega) (by omega)).mono ?_
 rintro ⟨_, σ2⟩ ⟨rfl, k2⟩
 dsimp only at k2
 have u3 := fun σ => hu σ (crc p) (crc_lt _)
 have a3 := str_add (a := be 4 p.length ++ be 4 (crc (be 4 p.length)) ++ p) (b := be 4 (crc p)) (by rw [List.length_append, List.length_append, be_len, be_len, be_len]; omega)
 simp -implicitDefEqProofs (disch := first | exact nbf rfl | exact nbt rfl | (simp only [zN.down, reduceCtorEq] <;> omega) | omega) only [u3, a3, fput, XOp.kind, AOp.kind, zU.down, simprocAttr]
 exact k1.trans k2
theorem ftake_ok (k : Nat) (ys : YlF) (σ : St) (s : List UInt8) (hs : s.length ≤ 140737488355328) (hk : 5000 ≤ k) :
  W (callY Tab.tb (k + 4) ys 64 [.str s] σ) fun r => r.1 = .tup [.str (ftk s).1, .sc (.int .i64 (ftk s).2.1), .sc (.int .i64 (ftk s).2.2)] ∧ Kept noX σ r.2 := by
 rw [s_call (af := Tab.b64) rfl (Nat.le_of_ble_eq_true rfl)]
 have hnew := fun σ s => rnew_ok (k + 2) ys σ s
 have hr := fun σ o r h hl ha => ru32_ok k ys σ o r h hl ha (by omega)
 have ho := fun σ s hs hl => of_ok k ys σ s hs hl
 generalize callY Tab.tb (k + 3) = cy at hnew hr ho ⊢
 unfold ftk
 by_cases c1 : s.length < 8
 · have d1 : decide ((s.length : Int) < 8) = true := by simp; omega
   rw [if_pos c1]
   simp -implicitDefEqProofs (disch := first | exact nbf rfl | exact nbt rfl | (simp only [zN.down, reduceCtorEq] <;> omega) | omega) only [Tab.b64, d1, XOp.kind, AOp.kind, zU.down, simprocAttr]
   exact Kept.refl _ _
 rw [if_neg c1]
 have d1 : decide ((s.length : Int) < 8) = false := by simp; omega
 simp -implicitDefEqProofs (disch := first | exact nbf rfl | exact nbt rfl | (simp only [zN.down, reduceCtorEq] <;> omega) | omega) only [Tab.b64, d1, hnew, XOp.kind, AOp.kind, zU.down, simprocAttr]
 repeat first | apply w_fin | apply w_seq | apply w_block | apply w_reg | apply w_op | apply w_dop
 have r0 := RR.new σ s
 generalize hσ1 : σ.push (.cells [.str s, .sc (.int .i64 0), .sc (.int .i64 0), .sc (.int .i64 0)]) = σ1 at *
 have e1 : (Rd.mk s 0 0 0).num 4 = val (s.take 4) := by unfold Rd.num; rw [if_neg (by simp; omega)]; simp
 have e2 : (Rd.mk s 0 0 0).go 4 = ⟨s, 4, 0, 0⟩ := by unfold Rd.go; rw [if_neg (by simp), if_neg (by simp; omega)]
 have e3 : (Rd.mk s 4 0 0).num 4 = val ((s.drop 4).take 4) := by unfold Rd.num; rw [if_neg (by simp; omega)]
 refine (hr σ1 σ.n _ r0 hs (Nat.zero_le _)).mono ?_
 rintro ⟨_, σ2⟩ ⟨rfl, r2, k2⟩
 dsimp only at r2 k2
 rw [e2] at r2
 rw [e1]
 have v1 := val_lt (s.take 4)
 rw [List.length_take, Nat.min_eq_left (by omega)] at v1
 have hp2 : val ((s.drop (8 + val (s.take 4))).take 4) = val ((s.drop (8 + val (s.take 4))).take 4) := rfl
 generalize hn : val (s.take 4) = n at *
 have w1 : IntKind.i64.wrap (n : Int) = n := wrap64 (by omega) (by omega)
 simp -implicitDefEqProofs (disch := first | exact nbf rfl | exact nbt rfl | (simp only [zN.down, reduceCtorEq] <;> omega) | omega) only [w1, XOp.kind, AOp.kind, zU.down, simprocAttr]
 repeat first | apply w_fin | apply w_seq | apply w_block | apply w_reg | apply w_op | apply w_dop
 refine (hr σ2 σ.n _ r2 hs (by simp; omega)).mono ?_
 rintro ⟨_, σ3⟩ ⟨rfl, r3, k3⟩
 dsimp only at r3 k3
 rw [e3]
 have kk : Kept noX σ σ3 := by
  have := k2.trans k3
  rw [← hσ1] at this
  exact Kept.new this
 by_cases c2 : n > 4096
 · have d2 : decide ((n : Int) > 4096) = true := by simp; omega
   rw [if_pos (.inl c2)]
   simp -implicitDefEqProofs (disch := first | exact nbf rfl | exact nbt rfl | (simp only [zN.down, reduceCtorEq] <;> omega) | omega) only [d2, XOp.kind, AOp.kind, zU.down, simprocAttr]
   exact kk
 have d2 : decide ((n : Int) > 4096) = false := by simp; omega
 have l4 : aSlice (.str s) none (some (.sc (.int .i64 4))) none = some (.str (s.take 4)) := str_lo (h := 4) (by omega)
 simp -implicitDefEqProofs (disch := first | exact nbf rfl | exact nbt rfl | (simp only [zN.down, reduceCtorEq] <;> omega) | omega) only [d2, l4, XOp.kind, AOp.kind, zU.down, simprocAttr]
 repeat first | apply w_fin | apply w_seq | apply w_block | apply w_reg | apply w_op | apply w_dop
 refine (ho σ3 (s.take 4) (by rw [List.length_take]; omega) (by rw [List.length_take]; omega)).mono ?_
 rintro ⟨_, σ4⟩ ⟨rfl, k4⟩
 dsimp only at k4
 have kk4 := kk.trans k4
 by_cases c3 : val ((s.drop 4).take 4) = crc (s.take 4)
 · have d3 : ((val ((s.drop 4).take 4) : Int) != (crc (s.take 4) : Int)) = false := by simp [c3]
   rw [if_neg (by omega)]
   have w2 : IntKind.i64.wrap (8 + (n : Int)) = ((8 + n : Nat) : Int) := by rw [wrap64 (by omega) (by omega)]; omega
   have w3 : IntKind.i64.wrap (((8 + n : Nat) : Int) + 4) = ((n + 12 : Nat) : Int) := by rw [wrap64 (by omega) (by omega)]; omega
   by_cases c4 : s.length < n + 12
   · have d4 : decide ((s.length : Int) < ((n + 12 : Nat) : Int)) = true := by simp only [decide_eq_true_eq]; omega
     rw [if_pos c4]
     simp -implicitDefEqProofs (disch := first | exact nbf rfl | exact nbt rfl | (simp only [zN.down, reduceCtorEq] <;> omega) | omega) only [d3, w2, w3, d4, XOp.kind, AOp.kind, zU.down, simprocAttr]
     exact kk4
   have d4 : decide ((s.length : Int) < ((n + 12 : Nat) : Int)) = false := by simp only [decide_eq_false_iff_not]; omega
   rw [if_neg c4]
   have l5 : aSlice (.str s) (some (.sc (.int .i64 8))) (some (.sc (.int .i64 ((8 + n : Nat) : Int)))) none = some (.str ((s.drop 8).take n)) := by
    have := str_sl (s := s) (l := 8) (h := 8 + n) (by omega) (by omega)
    rw [Nat.add_sub_cancel_left] at this
    exact this
   have l6 := str_hi (s := s) (l := 8 + n) (by omega)
   simp -implicitDefEqProofs (disch := first | exact nbf rfl | exact nbt rfl | (simp only [zN.down, reduceCtorEq] <;> omega) | omega) only [d3, w2, w3, d4, l5, l6, hnew, XOp.kind, AOp.kind, zU.down, simprocAttr]
   repeat first | apply w_fin | apply w_seq | apply w_block | apply w_reg | apply w_op | apply w_dop
   have r5 := RR.new σ4 (s.drop (8 + n))
   have hl5 : (s.drop (8 + n)).length ≥ 4 := by rw [List.length_drop]; omega
   have hl5' : (s.drop (8 + n)).length ≤ 140737488355328 := by rw [List.length_drop]; omega
   generalize hσ5 : σ4.push (.cells [.str (s.drop (8 + n)), .sc (.int .i64 0), .sc (.int .i64 0), .sc (.int .i64 0)]) = σ5 at *
   have e5 : (Rd.mk (s.drop (8 + n)) 0 0 0).num 4 = val ((s.drop (8 + n)).take 4) := by unfold Rd.num; rw [if_neg (by simp only [ne_eq, not_true_eq_false, false_or]; omega)]; simp
   refine (hr σ5 σ4.n _ r5 hl5' (Nat.zero_le _)).mono ?_
   rintro ⟨_, σ6⟩ ⟨rfl, r6, k6⟩
   dsimp only at r6 k6
   rw [e5]
   have kk6 : Kept noX σ σ6 := by
    rw [← hσ5] at k6
    exact kk4.trans (Kept.new k6)
   simp -implicitDefEqProofs (disch := first | exact nbf rfl | exact nbt rfl | (simp only [zN.down, reduceCtorEq] <;> omega) | omega) only [XOp.kind, AOp.kind, zU.down, simprocAttr]
   repeat first | apply w_fin | apply w_seq | apply w_block | apply w_reg | apply w_op | apply w_dop
   refine (ho σ6 ((s.drop 8).take n) (by rw [List.length_take]; omega) (by rw [List.length_take]; omega)).mono ?_
   rintro ⟨_, σ7⟩ ⟨rfl, k7⟩
   dsimp only at k7
   have kk7 := kk6.trans k7
   by_cases c5 : val ((s.drop (8 + n)).take 4) = crc ((s.drop 8).take n)
   · have d5 : ((val ((s.drop (8 + n)).take 4) : Int) != (crc ((s.drop 8).take n) : Int)) = false := by simp [c5]
     rw [if_neg (by omega)]
     simp -implicitDefEqProofs (disch := first | exact nbf rfl | exact nbt rfl | (simp only [zN.down, reduceCtorEq] <;> omega) | omega) only [d5, w2, w3, XOp.kind, AOp.kind, zU.down, simprocAttr]
     exact kk7
   · have d5 : ((val ((s.drop (8 + n)).take 4) : Int) != (crc ((s.drop 8).take n) : Int)) = true := by simp; omega
     rw [if_pos c5]
     simp -implicitDefEqProofs (disch := first | exact nbf rfl | exact nbt rfl | (simp only [zN.down, reduceCtorEq] <;> omega) | omega) only [d5, XOp.kind, AOp.kind, zU.down, simprocAttr]
     exact kk7
 · have d3 : ((val ((s.drop 4).take 4) : Int) != (crc (s.take 4) : Int)) = true := by simp; omega
   rw [if_pos (.inr c3)]
   simp -implicitDefEqProofs (disch := first | exact nbf rfl | exact nbt rfl | (simp only [zN.down, reduceCtorEq] <;> omega) | omega) only [d3, XOp.kind, AOp.kind, zU.down, simprocAttr]
   exact kk4
end Go.Proofs.YtehdjkikcfeiaaaGreat.fr
namespace Go.Proofs.YtehdjkikcfeiaaaGreat.fr
open Go.Ab
set_option maxRecDepth 100000
set_option maxHeartbeats 8000000
set_option linter.unusedSimpArgs false
set_option linter.unusedVariables false
def fls : Nat → List UInt8 → List (List UInt8)
 | 0, _ => []
 | f + 1, s => if (ftk s).2.2 = 0 then (ftk s).1 :: fls f (s.drop ((ftk s).1.length + 12)) else []
def scan (s : List UInt8) : List (List UInt8) := fls s.length s
def flen : List (List UInt8) → Nat
 | [] => 0
 | p :: l => p.length + 12 + flen l
theorem flen_append (a b : List (List UInt8)) : flen (a ++ b) = flen a + flen b := by
 induction a with
 | nil => simp [flen]
 | cons p a ih => simp [flen, ih]; omega
theorem fls_more : ∀ (f g : Nat) (s : List UInt8), s.length ≤ f → s.length ≤ g → fls f s = fls g s
 | 0, 0, _, _, _ => rfl
 | 0, g + 1, s, h, _ => by
  have : s = [] := List.length_eq_zero_iff.1 (by omega)
  subst this; rfl
 | f + 1, 0, s, _, h => by
  have : s = [] := List.length_eq_zero_iff.1 (by omega)
  subst this; rfl
 | f + 1, g + 1, s, h, h2 => by
  unfold fls
  split
  · rename_i hk
    obtain ⟨h3, h4, h5⟩ := ftk_ok hk
    rw [fls_more f g _ (by rw [List.length_drop]; omega) (by rw [List.length_drop]; omega)]
  · rfl
theorem scan_eq (s : List UInt8) : scan s = if (ftk s).2.2 = 0 then (ftk s).1 :: scan (s.drop ((ftk s).1.length + 12)) else [] := by
 unfold scan
 cases h : s.length with
 | zero =>
  have : s = [] := List.length_eq_zero_iff.1 h
  subst this; rfl
 | succ n =>
  rw [fls]
  split
  · rename_i hk
    obtain ⟨h3, h4, h5⟩ := ftk_ok hk
    rw [fls_more n _ _ (by rw [List.length_drop]; omega) (Nat.le_refl _)]
  · rfl
theorem flen_scan : ∀ (n : Nat) (s : List UInt8), s.length ≤ n → flen (scan s) ≤ s.length
 | 0, s, h => by
  have : s = [] := List.length_eq_zero_iff.1 (by omega)
  subst this; simp [scan, fls, flen]
 | n + 1, s, h => by
  rw [scan_eq]
  split
  · rename_i hk
    obtain ⟨h3, h4, h5⟩ := ftk_ok hk
    have := flen_scan n (s.drop ((ftk s).1.length + 12)) (by rw [List.length_drop]; omega)
    rw [List.length_drop] at this
    simp only [flen]
    omega
  · simp [flen]
theorem scan_at : ∀ (i : Nat) (s : List UInt8), i ≤ (scan s).length → scan (s.drop (flen ((scan s).take i))) = (scan s).drop i
 | 0, s, _ => by simp [flen]
 | i + 1, s, h => by
  have hs := scan_eq s
  by_cases hk : (ftk s).2.2 = 0
  · rw [if_pos hk] at hs
    rw [hs] at h ⊢
    simp only [List.length_cons] at h
    have := scan_at i (s.drop ((ftk s).1.length + 12)) (by omega)
    rw [List.drop_drop] at this
    simp only [List.take_succ_cons, flen, List.drop_succ_cons]
    rw [← this]
  · rw [if_neg hk] at hs
    rw [hs] at h
    simp at h
theorem flen_take_le (l : List (List UInt8)) (i : Nat) : flen (l.take i) ≤ flen l := by
 have h := flen_append (l.take i) (l.drop i)
 rw [List.take_append_drop] at h
 omega
theorem flen_take_succ {l : List (List UInt8)} {i : Nat} (h : i < l.length) : flen (l.take (i + 1)) = flen (l.take i) + (l[i].length + 12) := by
 rw [List.take_add_one, List.getElem?_eq_getElem h, flen_append]
 simp [flen]
theorem len_flen (l : List (List UInt8)) : l.length ≤ flen l := by
 induction l with
 | nil => simp
 | cons p l ih => simp [flen]; omega
theorem all1_ok (k : Nat) (ys : YlF) (σ : St) (b y : Nat) (s : List UInt8) (hs : s.length ≤ 140737488355328) (hk : 5000 + s.length ≤ k) (I : Nat → St → Prop) (Q : St → Prop) (hb : ∀ i σ, I i σ → σ.get b = some (.cells [.str s])) (hI0 : I 0 σ)
  (hkp : ∀ i σ σ', I i σ → Kept noX σ σ' → I i σ')
  (hy : ∀ i (hi : i < (scan s).length) σ, I i σ → W (ys y [.sc (.int .i64 (flen ((scan s).take i) : Nat)), .str ((scan s)[i])] σ) fun r => (r.1 = .sc (.bool true) ∧ I (i + 1) r.2) ∨ (r.1 = .sc (.bool false) ∧ Q r.2)) :
  W (callY Tab.tb (k + 5) ys 63 [.yl y, .ptr b 0] σ) fun r => I (scan s).length r.2 ∨ Q r.2 := by
 rw [s_call (af := Tab.b63) rfl (Nat.le_of_ble_eq_true rfl)]
 have ht := fun σ s hs => ftake_ok k ys σ s hs (by omega)
 generalize callY Tab.tb (k + 4) = cy at ht ⊢
 simp -implicitDefEqProofs (disch := first | exact nbf rfl | exact nbt rfl | (simp only [zN.down, reduceCtorEq] <;> omega) | omega) only [Tab.b63, XOp.kind, AOp.kind, zU.down, simprocAttr]
 repeat first | apply w_fin | apply w_seq | apply w_block | apply w_reg | apply w_op | apply w_dop
 have hsl := flen_scan _ s (Nat.le_refl _)
 have hln := len_flen (scan s)
 refine W.mono (Q := fun r => ∃ (ρ : Env) (σ' : St), r = ((.ret : Ex), ρ, σ') ∧ (I (scan s).length σ' ∨ Q σ')) ?_ ?_
 · refine w_loop (fun m ρ σ' => ∃ i, m = (scan s).length - i ∧ i ≤ (scan s).length ∧ I i σ' ∧ ρ 0 = .yl y ∧ ρ 1 = .ptr b 0 ∧ ρ 3 = .sc (.int .i64 (flen ((scan s).take i) : Nat))) (scan s).length (by omega) ?_ ?_
   · refine ⟨0, rfl, Nat.zero_le _, hI0, ?_, ?_, ?_⟩
     all_goals first | rfl | (simp -implicitDefEqProofs (disch := first | exact nbf rfl | exact nbt rfl | (simp only [zN.down, reduceCtorEq] <;> omega) | omega) only [XOp.kind, AOp.kind, zU.down, simprocAttr]; done) | (simp -implicitDefEqProofs (disch := first | exact nbf rfl | exact nbt rfl | (simp only [zN.down, reduceCtorEq] <;> omega) | omega) only [flen, XOp.kind, AOp.kind, zU.down, simprocAttr]; rfl)
   · rintro m ρ σ' ⟨i, hm, hi, hI, e0, e1, e3⟩
     have g := hb i σ' hI
     have hfl := flen_take_le (scan s) i
     have h1 := str_hi (s := s) (l := flen ((scan s).take i)) (by omega)
     have hsa := scan_at i s hi
     have hst := scan_eq (s.drop (flen ((scan s).take i)))
     rw [hsa] at hst
     simp -implicitDefEqProofs (disch := first | exact nbf rfl | exact nbt rfl | (simp only [zN.down, reduceCtorEq] <;> omega) | omega) only [e0, e1, e3, g, h1, XOp.kind, AOp.kind, zU.down, simprocAttr]
     repeat first | apply w_fin | apply w_seq | apply w_block | apply w_reg | apply w_op | apply w_dop
     refine (ht σ' (s.drop (flen ((scan s).take i))) (by rw [List.length_drop]; omega)).mono ?_
     rintro ⟨_, σ2⟩ ⟨rfl, k2⟩
     dsimp only at k2
     have hI2 := hkp _ _ _ hI k2
     by_cases c : (ftk (s.drop (flen ((scan s).take i)))).2.2 = 0
     · rw [if_pos c] at hst
       have hil : i < (scan s).length := by
        rcases Nat.lt_or_ge i (scan s).length with h | h
        · exact h
        · rw [List.drop_eq_nil_of_le h] at hst; cases hst
       rw [List.drop_eq_getElem_cons hil] at hst
       have hp := (List.cons.inj hst).1
       obtain ⟨q1, q2, q3⟩ := ftk_ok c
       rw [q2, c, ← hp]
       have hyy := hy i hil σ2 hI2
       have hft := flen_take_succ hil
       have hfl2 := flen_take_le (scan s) (i + 1)
       generalize (scan s)[i] = p at *
       have w1 : IntKind.i64.wrap ((flen ((scan s).take i) : Int) + ((p.length + 12 : Nat) : Int)) = ((flen ((scan s).take (i + 1)) : Nat) : Int) := by
        rw [wrap64 (by omega) (by omega), hft]; omega
       have z0 : ((0 : Nat) : Int) = 0 := rfl
       simp -implicitDefEqProofs (disch := first | exact nbf rfl | exact nbt rfl | (simp only [zN.down, reduceCtorEq] <;> omega) | omega) only [e0, e3, z0, XOp.kind, AOp.kind, zU.down, simprocAttr]
       repeat first | apply w_fin | apply w_seq | apply w_block | apply w_reg | apply w_op | apply w_dop
       refine hyy.mono ?_
       rintro ⟨_, σ3⟩ (⟨rfl, h3⟩ | ⟨rfl, h3⟩)
       · dsimp only at h3
         simp -implicitDefEqProofs (disch := first | exact nbf rfl | exact nbt rfl | (simp only [zN.down, reduceCtorEq] <;> omega) | omega) only [e0, e1, e3, w1, XOp.kind, AOp.kind, zU.down, simprocAttr]
         exact ⟨(scan s).length - (i + 1), by omega, i + 1, rfl, hil, h3, rfl⟩
       · simp -implicitDefEqProofs (disch := first | exact nbf rfl | exact nbt rfl | (simp only [zN.down, reduceCtorEq] <;> omega) | omega) only [XOp.kind, AOp.kind, zU.down, simprocAttr]
         exact ⟨_, _, rfl, .inr h3⟩
     · rw [if_neg c] at hst
       have : i = (scan s).length := by
        have := congrArg List.length hst
        rw [List.length_drop, List.length_nil] at this
        omega
       have d1 : (((ftk (s.drop (flen ((scan s).take i)))).2.2 : Int) != 0) = true := by simp only [bne_iff_ne, ne_eq]; omega
       simp -implicitDefEqProofs (disch := first | exact nbf rfl | exact nbt rfl | (simp only [zN.down, reduceCtorEq] <;> omega) | omega) only [d1, XOp.kind, AOp.kind, zU.down, simprocAttr]
       exact ⟨_, _, rfl, .inl (by rw [← this]; exact hI2)⟩
 · rintro _ ⟨ρ, σ', rfl, h⟩
   simp -implicitDefEqProofs (disch := first | exact nbf rfl | exact nbt rfl | (simp only [zN.down, reduceCtorEq] <;> omega) | omega) only [XOp.kind, AOp.kind, zU.down, simprocAttr]
   exact h
end Go.Proofs.YtehdjkikcfeiaaaGreat.fr
namespace Go.Proofs.YtehdjkikcfeiaaaGreat.fr
open Go.Ab
set_option maxRecDepth 100000
set_option maxHeartbeats 8000000
set_option linter.unusedSimpArgs false
set_option linter.unusedVariables false
theorem bind2 {ρ : Env} {a b : Nat} {x y : V} : bindPs ρ [a, b] [x, y] = upd (upd ρ a x) b y := rfl
theorem all_ok (k : Nat) (ys : YlF) (σ : St) (s : List UInt8) :
  callY Tab.tb (k + 1) ys 42 [.str s] σ = some (.fn (.func 63) [] [.ptr σ.n 0], σ.push (.cells [.str s])) := by
 rw [s_call (af := Tab.b42) rfl (Nat.le_of_ble_eq_true rfl)]
 generalize callY Tab.tb k = cy
 simp -implicitDefEqProofs (disch := first | exact nbf rfl | exact nbt rfl | (simp only [zN.down, reduceCtorEq] <;> omega) | omega) only [Tab.b42, XOp.kind, AOp.kind, zU.down, simprocAttr]
def sc1 (p : List UInt8) : List V := [.str p]
theorem sc1_rv (p : List UInt8) : RV 1 (.vs .exact 1 1 [.str p]) ([p].map sc1) := RV.vs (own := .exact) (sz := 1) (es := [p].map sc1) (by simp [sc1]) (by simp [sc1, V.oneCell])
theorem ssl1 (p : List UInt8) : aBslice 1 1 [.str []] [(0, 1, .str p)] = some (.vs .exact 1 1 [.str p]) := rfl
end Go.Proofs.YtehdjkikcfeiaaaGreat.fr
namespace Go.Proofs.YtehdjkikcfeiaaaGreat.fr
open Go.Ab
set_option maxRecDepth 100000
set_option maxHeartbeats 8000000
set_option linter.unusedSimpArgs false
set_option linter.unusedVariables false
end Go.Proofs.YtehdjkikcfeiaaaGreat.fr
